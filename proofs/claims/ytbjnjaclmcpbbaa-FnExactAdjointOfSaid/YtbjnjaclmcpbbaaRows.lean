/-
  No cell of these rows narrows 'for every input' (looked for: loops, veiled, ifaces, maps, wideKeys, modest, calm, conditions, laid).
  DERIVED. THE GIVEN ROWS OF THIS SEAT. 12 by the template 'for every input the law returns true; each argument reads behind the call as it read before'; 0 by the template 'total and deterministic' (their statements: YtbjnjaclmcpbbaaTotals.lean).
  GIVEN WITH THE SEED: the statements are not yours to turn. If you find one false, say at which input.
  Laid BY PROGRAM, IN A SANDBOX (cutbox-rows.mjs): the forced cells as the released guide's own fill.sh prints them over the translation 73f01c89d232a639… (all of the seat's roots in one cut). By AI agents, Wed Nov 11 2026. No macro, syntax, notation, axiom, sorry.
-/
import Derived.Test.YtbjnjaclmcpbbaaChecked
import GoSem.Claim
import GoSem.ClaimJoined
import GoSem.ClaimMapViews
import Derived.JoinedTies
import Derived.KernelRfl
namespace Go.Proofs.Ytbjnjaclmcpbbaa
/- THE CELL 'sum', in the pinned program and in every row, IS THE sha256 OF THE DUMP (.gsa) THAT YtbjnjaclmcpbbaaProg.lean LOADS. Nothing in Lean hashes anything: it is a label: what it is worth is what the hold of that sum in a sandbox is worth. -/
noncomputable def Try.pinned : Pinned := { name := "ytbjnjaclmcpbbaa", sum := "73f01c89d232a63984420dd35a0473a3fd7b535ed3d6a98e152f6b03c4d6dcc8", checked := Try.checked }
namespace Rows
def none {H : Type} : Left H := { results := [], args := [] }

/-- 'laws.FnExactDetOver': WHATEVER THE INPUT: true; the input reads as it did. -/
def fnExactDetOverSpec : ChangeSpec := { name := "fnExactDetOver", fn := fun _ => fun
  | [d1, d2] => { results := [.lit (.bool true)], args := [d1, d2] }
  | _ => none }
def fnExactDetOverRow : OpenClaim := { program := "ytbjnjaclmcpbbaa", sum := "73f01c89d232a63984420dd35a0473a3fd7b535ed3d6a98e152f6b03c4d6dcc8", func := "loop.example/g01327/laws.FnExactDetOver", spec := "fnExactDetOver", unfollowed := true, recurses := true, apart := false }
def FnExactDetOverSaid : Prop := fnExactDetOverRow.holds Try.pinned (OpenSpec.ofChange fnExactDetOverSpec)

/-- ITS FALSE NEIGHBOUR: 'it returns false'. Refute it at one input. -/
def fnExactDetOverWrong : ChangeSpec := { name := "fnExactDetOver", fn := fun _ => fun
  | [d1, d2] => { results := [.lit (.bool false)], args := [d1, d2] }
  | _ => none }
def FnExactDetOverWrongFalsely : Prop := fnExactDetOverRow.holds Try.pinned (OpenSpec.ofChange fnExactDetOverWrong)

/-- 'laws.FnExactRankOver': WHATEVER THE INPUT: true; the input reads as it did. -/
def fnExactRankOverSpec : ChangeSpec := { name := "fnExactRankOver", fn := fun _ => fun
  | [d1, d2] => { results := [.lit (.bool true)], args := [d1, d2] }
  | _ => none }
def fnExactRankOverRow : OpenClaim := { program := "ytbjnjaclmcpbbaa", sum := "73f01c89d232a63984420dd35a0473a3fd7b535ed3d6a98e152f6b03c4d6dcc8", func := "loop.example/g01327/laws.FnExactRankOver", spec := "fnExactRankOver", unfollowed := true, recurses := true, apart := false }
def FnExactRankOverSaid : Prop := fnExactRankOverRow.holds Try.pinned (OpenSpec.ofChange fnExactRankOverSpec)

/-- ITS FALSE NEIGHBOUR: 'it returns false'. Refute it at one input. -/
def fnExactRankOverWrong : ChangeSpec := { name := "fnExactRankOver", fn := fun _ => fun
  | [d1, d2] => { results := [.lit (.bool false)], args := [d1, d2] }
  | _ => none }
def FnExactRankOverWrongFalsely : Prop := fnExactRankOverRow.holds Try.pinned (OpenSpec.ofChange fnExactRankOverWrong)

/-- 'laws.FnExactSolveOver': WHATEVER THE INPUT: true; the input reads as it did. -/
def fnExactSolveOverSpec : ChangeSpec := { name := "fnExactSolveOver", fn := fun _ => fun
  | [d1, d2, d3] => { results := [.lit (.bool true)], args := [d1, d2, d3] }
  | _ => none }
def fnExactSolveOverRow : OpenClaim := { program := "ytbjnjaclmcpbbaa", sum := "73f01c89d232a63984420dd35a0473a3fd7b535ed3d6a98e152f6b03c4d6dcc8", func := "loop.example/g01327/laws.FnExactSolveOver", spec := "fnExactSolveOver", unfollowed := true, recurses := true, apart := false }
def FnExactSolveOverSaid : Prop := fnExactSolveOverRow.holds Try.pinned (OpenSpec.ofChange fnExactSolveOverSpec)

/-- ITS FALSE NEIGHBOUR: 'it returns false'. Refute it at one input. -/
def fnExactSolveOverWrong : ChangeSpec := { name := "fnExactSolveOver", fn := fun _ => fun
  | [d1, d2, d3] => { results := [.lit (.bool false)], args := [d1, d2, d3] }
  | _ => none }
def FnExactSolveOverWrongFalsely : Prop := fnExactSolveOverRow.holds Try.pinned (OpenSpec.ofChange fnExactSolveOverWrong)

/-- 'laws.FnExactNullOver': WHATEVER THE INPUT: true; the input reads as it did. -/
def fnExactNullOverSpec : ChangeSpec := { name := "fnExactNullOver", fn := fun _ => fun
  | [d1, d2] => { results := [.lit (.bool true)], args := [d1, d2] }
  | _ => none }
def fnExactNullOverRow : OpenClaim := { program := "ytbjnjaclmcpbbaa", sum := "73f01c89d232a63984420dd35a0473a3fd7b535ed3d6a98e152f6b03c4d6dcc8", func := "loop.example/g01327/laws.FnExactNullOver", spec := "fnExactNullOver", unfollowed := true, recurses := true, apart := false }
def FnExactNullOverSaid : Prop := fnExactNullOverRow.holds Try.pinned (OpenSpec.ofChange fnExactNullOverSpec)

/-- ITS FALSE NEIGHBOUR: 'it returns false'. Refute it at one input. -/
def fnExactNullOverWrong : ChangeSpec := { name := "fnExactNullOver", fn := fun _ => fun
  | [d1, d2] => { results := [.lit (.bool false)], args := [d1, d2] }
  | _ => none }
def FnExactNullOverWrongFalsely : Prop := fnExactNullOverRow.holds Try.pinned (OpenSpec.ofChange fnExactNullOverWrong)

/-- 'laws.FnExactNormalOf': WHATEVER THE INPUT: true; the input reads as it did. -/
def fnExactNormalOfSpec : ChangeSpec := { name := "fnExactNormalOf", fn := fun _ => fun
  | [d] => { results := [.lit (.bool true)], args := [d] }
  | _ => none }
def fnExactNormalOfRow : OpenClaim := { program := "ytbjnjaclmcpbbaa", sum := "73f01c89d232a63984420dd35a0473a3fd7b535ed3d6a98e152f6b03c4d6dcc8", func := "loop.example/g01327/laws.FnExactNormalOf", spec := "fnExactNormalOf", unfollowed := true, recurses := true, apart := false }
def FnExactNormalOfSaid : Prop := fnExactNormalOfRow.holds Try.pinned (OpenSpec.ofChange fnExactNormalOfSpec)

/-- ITS FALSE NEIGHBOUR: 'it returns false'. Refute it at one input. -/
def fnExactNormalOfWrong : ChangeSpec := { name := "fnExactNormalOf", fn := fun _ => fun
  | [d] => { results := [.lit (.bool false)], args := [d] }
  | _ => none }
def FnExactNormalOfWrongFalsely : Prop := fnExactNormalOfRow.holds Try.pinned (OpenSpec.ofChange fnExactNormalOfWrong)

/-- 'laws.FnExactAdjointOf': WHATEVER THE INPUT: true; the input reads as it did. -/
def fnExactAdjointOfSpec : ChangeSpec := { name := "fnExactAdjointOf", fn := fun _ => fun
  | [d] => { results := [.lit (.bool true)], args := [d] }
  | _ => none }
def fnExactAdjointOfRow : OpenClaim := { program := "ytbjnjaclmcpbbaa", sum := "73f01c89d232a63984420dd35a0473a3fd7b535ed3d6a98e152f6b03c4d6dcc8", func := "loop.example/g01327/laws.FnExactAdjointOf", spec := "fnExactAdjointOf", unfollowed := true, recurses := true, apart := false }
def FnExactAdjointOfSaid : Prop := fnExactAdjointOfRow.holds Try.pinned (OpenSpec.ofChange fnExactAdjointOfSpec)

/-- ITS FALSE NEIGHBOUR: 'it returns false'. Refute it at one input. -/
def fnExactAdjointOfWrong : ChangeSpec := { name := "fnExactAdjointOf", fn := fun _ => fun
  | [d] => { results := [.lit (.bool false)], args := [d] }
  | _ => none }
def FnExactAdjointOfWrongFalsely : Prop := fnExactAdjointOfRow.holds Try.pinned (OpenSpec.ofChange fnExactAdjointOfWrong)

/-- 'laws.FnExactShortRows': WHATEVER THE INPUT: true; the input reads as it did. -/
def fnExactShortRowsSpec : ChangeSpec := { name := "fnExactShortRows", fn := fun _ => fun
  | [d1, d2] => { results := [.lit (.bool true)], args := [d1, d2] }
  | _ => none }
def fnExactShortRowsRow : OpenClaim := { program := "ytbjnjaclmcpbbaa", sum := "73f01c89d232a63984420dd35a0473a3fd7b535ed3d6a98e152f6b03c4d6dcc8", func := "loop.example/g01327/laws.FnExactShortRows", spec := "fnExactShortRows", inPlace := ["math.archFloor", "math.Float64bits", "math.Float64frombits", "math.archTrunc"], unfollowed := true, recurses := true, apart := false }
def FnExactShortRowsSaid : Prop := fnExactShortRowsRow.holds Try.pinned (OpenSpec.ofChange fnExactShortRowsSpec)

/-- ITS FALSE NEIGHBOUR: 'it returns false'. Refute it at one input. -/
def fnExactShortRowsWrong : ChangeSpec := { name := "fnExactShortRows", fn := fun _ => fun
  | [d1, d2] => { results := [.lit (.bool false)], args := [d1, d2] }
  | _ => none }
def FnExactShortRowsWrongFalsely : Prop := fnExactShortRowsRow.holds Try.pinned (OpenSpec.ofChange fnExactShortRowsWrong)

/-- 'laws.FnExactEchelonOf': WHATEVER THE INPUT: true; the input reads as it did. -/
def fnExactEchelonOfSpec : ChangeSpec := { name := "fnExactEchelonOf", fn := fun _ => fun
  | [d] => { results := [.lit (.bool true)], args := [d] }
  | _ => none }
def fnExactEchelonOfRow : OpenClaim := { program := "ytbjnjaclmcpbbaa", sum := "73f01c89d232a63984420dd35a0473a3fd7b535ed3d6a98e152f6b03c4d6dcc8", func := "loop.example/g01327/laws.FnExactEchelonOf", spec := "fnExactEchelonOf", unfollowed := true, recurses := true, apart := false }
def FnExactEchelonOfSaid : Prop := fnExactEchelonOfRow.holds Try.pinned (OpenSpec.ofChange fnExactEchelonOfSpec)

/-- ITS FALSE NEIGHBOUR: 'it returns false'. Refute it at one input. -/
def fnExactEchelonOfWrong : ChangeSpec := { name := "fnExactEchelonOf", fn := fun _ => fun
  | [d] => { results := [.lit (.bool false)], args := [d] }
  | _ => none }
def FnExactEchelonOfWrongFalsely : Prop := fnExactEchelonOfRow.holds Try.pinned (OpenSpec.ofChange fnExactEchelonOfWrong)

/-- 'laws.FnExactSameSheets': WHATEVER THE INPUT: true; the input reads as it did. -/
def fnExactSameSheetsSpec : ChangeSpec := { name := "fnExactSameSheets", fn := fun _ => fun
  | [d1, d2] => { results := [.lit (.bool true)], args := [d1, d2] }
  | _ => none }
def fnExactSameSheetsRow : OpenClaim := { program := "ytbjnjaclmcpbbaa", sum := "73f01c89d232a63984420dd35a0473a3fd7b535ed3d6a98e152f6b03c4d6dcc8", func := "loop.example/g01327/laws.FnExactSameSheets", spec := "fnExactSameSheets", inPlace := ["math.Float32bits", "math.Float64bits"], unfollowed := true, recurses := true, apart := false }
def FnExactSameSheetsSaid : Prop := fnExactSameSheetsRow.holds Try.pinned (OpenSpec.ofChange fnExactSameSheetsSpec)

/-- ITS FALSE NEIGHBOUR: 'it returns false'. Refute it at one input. -/
def fnExactSameSheetsWrong : ChangeSpec := { name := "fnExactSameSheets", fn := fun _ => fun
  | [d1, d2] => { results := [.lit (.bool false)], args := [d1, d2] }
  | _ => none }
def FnExactSameSheetsWrongFalsely : Prop := fnExactSameSheetsRow.holds Try.pinned (OpenSpec.ofChange fnExactSameSheetsWrong)

/-- 'laws.FnExactStoreSheet': WHATEVER THE INPUT: true; the input reads as it did. -/
def fnExactStoreSheetSpec : ChangeSpec := { name := "fnExactStoreSheet", fn := fun _ => fun
  | [d] => { results := [.lit (.bool true)], args := [d] }
  | _ => none }
def fnExactStoreSheetRow : OpenClaim := { program := "ytbjnjaclmcpbbaa", sum := "73f01c89d232a63984420dd35a0473a3fd7b535ed3d6a98e152f6b03c4d6dcc8", func := "loop.example/g01327/laws.FnExactStoreSheet", spec := "fnExactStoreSheet", inPlace := ["math.Float32bits", "math.Float64bits", "math.Float64frombits"], unfollowed := true, recurses := true, apart := false }
def FnExactStoreSheetSaid : Prop := fnExactStoreSheetRow.holds Try.pinned (OpenSpec.ofChange fnExactStoreSheetSpec)

/-- ITS FALSE NEIGHBOUR: 'it returns false'. Refute it at one input. -/
def fnExactStoreSheetWrong : ChangeSpec := { name := "fnExactStoreSheet", fn := fun _ => fun
  | [d] => { results := [.lit (.bool false)], args := [d] }
  | _ => none }
def FnExactStoreSheetWrongFalsely : Prop := fnExactStoreSheetRow.holds Try.pinned (OpenSpec.ofChange fnExactStoreSheetWrong)

/-- 'laws.FnPrimes': WHATEVER THE INPUT: true; the input reads as it did. -/
def fnPrimesSpec : ChangeSpec := { name := "fnPrimes", fn := fun _ => fun
  | [d1, d2] => { results := [.lit (.bool true)], args := [d1, d2] }
  | _ => none }
def fnPrimesRow : OpenClaim := { program := "ytbjnjaclmcpbbaa", sum := "73f01c89d232a63984420dd35a0473a3fd7b535ed3d6a98e152f6b03c4d6dcc8", func := "loop.example/g01327/laws.FnPrimes", spec := "fnPrimes", unfollowed := true, recurses := true, apart := false }
def FnPrimesSaid : Prop := fnPrimesRow.holds Try.pinned (OpenSpec.ofChange fnPrimesSpec)

/-- ITS FALSE NEIGHBOUR: 'it returns false'. Refute it at one input. -/
def fnPrimesWrong : ChangeSpec := { name := "fnPrimes", fn := fun _ => fun
  | [d1, d2] => { results := [.lit (.bool false)], args := [d1, d2] }
  | _ => none }
def FnPrimesWrongFalsely : Prop := fnPrimesRow.holds Try.pinned (OpenSpec.ofChange fnPrimesWrong)

/-- 'laws.FnShort': WHATEVER THE INPUT: true; the input reads as it did. -/
def fnShortSpec : ChangeSpec := { name := "fnShort", fn := fun _ => fun
  | [d1, d2] => { results := [.lit (.bool true)], args := [d1, d2] }
  | _ => none }
def fnShortRow : OpenClaim := { program := "ytbjnjaclmcpbbaa", sum := "73f01c89d232a63984420dd35a0473a3fd7b535ed3d6a98e152f6b03c4d6dcc8", func := "loop.example/g01327/laws.FnShort", spec := "fnShort", inPlace := ["math.archFloor", "math.Float64bits", "math.Float64frombits", "math.archTrunc"], unfollowed := true, recurses := true, apart := false }
def FnShortSaid : Prop := fnShortRow.holds Try.pinned (OpenSpec.ofChange fnShortSpec)

/-- ITS FALSE NEIGHBOUR: 'it returns false'. Refute it at one input. -/
def fnShortWrong : ChangeSpec := { name := "fnShort", fn := fun _ => fun
  | [d1, d2] => { results := [.lit (.bool false)], args := [d1, d2] }
  | _ => none }
def FnShortWrongFalsely : Prop := fnShortRow.holds Try.pinned (OpenSpec.ofChange fnShortWrong)

/- THE SECOND FORM. 'bulk': how many values and letters a reading holds, each counted each time it is reached (what is shared counts as often as it is met; a slice's spare places count too). A statement '..UptoSaid' is the law's where the arguments, and the package variables that the reading takes, are together of bulk at most 1048576: NARROWER than '..Said'. Prove '..Said' where nothing that the law and all that it calls make is longer than what came in: it says more and counts as full. Else prove '..UptoSaid'. A law counts once. -/
mutual
def uptoBulk {H : Type} : DataW H → Nat
  | .lit (.string bytes) => bytes.length + 1
  | .lit _ => 1
  | .nil => 1
  | .ptr d => uptoBulk d + 1
  | .slice elems spare => uptoBulkAll elems + uptoBulkAll spare + 1
  | .agg parts => uptoBulkAll parts + 1
  | .iface _ d => uptoBulk d + 1
  | .map entries => uptoBulkEntries entries + 1
  | .held _ => 1
def uptoBulkAll {H : Type} : List (DataW H) → Nat
  | [] => 0
  | d :: r => uptoBulk d + uptoBulkAll r
def uptoBulkEntries {H : Type} : List (Lit × DataW H) → Nat
  | [] => 0
  | x :: r => uptoBulkEntry x + uptoBulkEntries r
def uptoBulkEntry {H : Type} : Lit × DataW H → Nat
  | (.string bytes, d) => bytes.length + uptoBulk d + 1
  | (_, d) => uptoBulk d + 1
 end
def uptoSmall : (H : Type) → List (DataW H) → Bool := fun _ ds => decide (uptoBulkAll ds ≤ 1048576)
def OpenSpec.upto (s : _root_.Go.ChangeSpec) : _root_.Go.OpenSpec := { _root_.Go.OpenSpec.ofChange s with cond := some uptoSmall }

/-- 'laws.FnExactDetOver', WHERE WHAT IT READS IS OF BULK AT MOST 1048576: true; the input reads as it did. -/
def fnExactDetOverUptoRow : OpenClaim := { program := "ytbjnjaclmcpbbaa", sum := "73f01c89d232a63984420dd35a0473a3fd7b535ed3d6a98e152f6b03c4d6dcc8", func := "loop.example/g01327/laws.FnExactDetOver", spec := "fnExactDetOver", unfollowed := true, recurses := true, apart := false, narrowed := true }
def FnExactDetOverUptoSaid : Prop := fnExactDetOverUptoRow.holds Try.pinned (OpenSpec.upto fnExactDetOverSpec)

/-- 'laws.FnExactRankOver', WHERE WHAT IT READS IS OF BULK AT MOST 1048576: true; the input reads as it did. -/
def fnExactRankOverUptoRow : OpenClaim := { program := "ytbjnjaclmcpbbaa", sum := "73f01c89d232a63984420dd35a0473a3fd7b535ed3d6a98e152f6b03c4d6dcc8", func := "loop.example/g01327/laws.FnExactRankOver", spec := "fnExactRankOver", unfollowed := true, recurses := true, apart := false, narrowed := true }
def FnExactRankOverUptoSaid : Prop := fnExactRankOverUptoRow.holds Try.pinned (OpenSpec.upto fnExactRankOverSpec)

/-- 'laws.FnExactSolveOver', WHERE WHAT IT READS IS OF BULK AT MOST 1048576: true; the input reads as it did. -/
def fnExactSolveOverUptoRow : OpenClaim := { program := "ytbjnjaclmcpbbaa", sum := "73f01c89d232a63984420dd35a0473a3fd7b535ed3d6a98e152f6b03c4d6dcc8", func := "loop.example/g01327/laws.FnExactSolveOver", spec := "fnExactSolveOver", unfollowed := true, recurses := true, apart := false, narrowed := true }
def FnExactSolveOverUptoSaid : Prop := fnExactSolveOverUptoRow.holds Try.pinned (OpenSpec.upto fnExactSolveOverSpec)

/-- 'laws.FnExactNullOver', WHERE WHAT IT READS IS OF BULK AT MOST 1048576: true; the input reads as it did. -/
def fnExactNullOverUptoRow : OpenClaim := { program := "ytbjnjaclmcpbbaa", sum := "73f01c89d232a63984420dd35a0473a3fd7b535ed3d6a98e152f6b03c4d6dcc8", func := "loop.example/g01327/laws.FnExactNullOver", spec := "fnExactNullOver", unfollowed := true, recurses := true, apart := false, narrowed := true }
def FnExactNullOverUptoSaid : Prop := fnExactNullOverUptoRow.holds Try.pinned (OpenSpec.upto fnExactNullOverSpec)

/-- 'laws.FnExactNormalOf', WHERE WHAT IT READS IS OF BULK AT MOST 1048576: true; the input reads as it did. -/
def fnExactNormalOfUptoRow : OpenClaim := { program := "ytbjnjaclmcpbbaa", sum := "73f01c89d232a63984420dd35a0473a3fd7b535ed3d6a98e152f6b03c4d6dcc8", func := "loop.example/g01327/laws.FnExactNormalOf", spec := "fnExactNormalOf", unfollowed := true, recurses := true, apart := false, narrowed := true }
def FnExactNormalOfUptoSaid : Prop := fnExactNormalOfUptoRow.holds Try.pinned (OpenSpec.upto fnExactNormalOfSpec)

/-- 'laws.FnExactAdjointOf', WHERE WHAT IT READS IS OF BULK AT MOST 1048576: true; the input reads as it did. -/
def fnExactAdjointOfUptoRow : OpenClaim := { program := "ytbjnjaclmcpbbaa", sum := "73f01c89d232a63984420dd35a0473a3fd7b535ed3d6a98e152f6b03c4d6dcc8", func := "loop.example/g01327/laws.FnExactAdjointOf", spec := "fnExactAdjointOf", unfollowed := true, recurses := true, apart := false, narrowed := true }
def FnExactAdjointOfUptoSaid : Prop := fnExactAdjointOfUptoRow.holds Try.pinned (OpenSpec.upto fnExactAdjointOfSpec)

/-- 'laws.FnExactShortRows', WHERE WHAT IT READS IS OF BULK AT MOST 1048576: true; the input reads as it did. -/
def fnExactShortRowsUptoRow : OpenClaim := { program := "ytbjnjaclmcpbbaa", sum := "73f01c89d232a63984420dd35a0473a3fd7b535ed3d6a98e152f6b03c4d6dcc8", func := "loop.example/g01327/laws.FnExactShortRows", spec := "fnExactShortRows", inPlace := ["math.archFloor", "math.Float64bits", "math.Float64frombits", "math.archTrunc"], unfollowed := true, recurses := true, apart := false, narrowed := true }
def FnExactShortRowsUptoSaid : Prop := fnExactShortRowsUptoRow.holds Try.pinned (OpenSpec.upto fnExactShortRowsSpec)

/-- 'laws.FnExactEchelonOf', WHERE WHAT IT READS IS OF BULK AT MOST 1048576: true; the input reads as it did. -/
def fnExactEchelonOfUptoRow : OpenClaim := { program := "ytbjnjaclmcpbbaa", sum := "73f01c89d232a63984420dd35a0473a3fd7b535ed3d6a98e152f6b03c4d6dcc8", func := "loop.example/g01327/laws.FnExactEchelonOf", spec := "fnExactEchelonOf", unfollowed := true, recurses := true, apart := false, narrowed := true }
def FnExactEchelonOfUptoSaid : Prop := fnExactEchelonOfUptoRow.holds Try.pinned (OpenSpec.upto fnExactEchelonOfSpec)

/-- 'laws.FnExactSameSheets', WHERE WHAT IT READS IS OF BULK AT MOST 1048576: true; the input reads as it did. -/
def fnExactSameSheetsUptoRow : OpenClaim := { program := "ytbjnjaclmcpbbaa", sum := "73f01c89d232a63984420dd35a0473a3fd7b535ed3d6a98e152f6b03c4d6dcc8", func := "loop.example/g01327/laws.FnExactSameSheets", spec := "fnExactSameSheets", inPlace := ["math.Float32bits", "math.Float64bits"], unfollowed := true, recurses := true, apart := false, narrowed := true }
def FnExactSameSheetsUptoSaid : Prop := fnExactSameSheetsUptoRow.holds Try.pinned (OpenSpec.upto fnExactSameSheetsSpec)

/-- 'laws.FnExactStoreSheet', WHERE WHAT IT READS IS OF BULK AT MOST 1048576: true; the input reads as it did. -/
def fnExactStoreSheetUptoRow : OpenClaim := { program := "ytbjnjaclmcpbbaa", sum := "73f01c89d232a63984420dd35a0473a3fd7b535ed3d6a98e152f6b03c4d6dcc8", func := "loop.example/g01327/laws.FnExactStoreSheet", spec := "fnExactStoreSheet", inPlace := ["math.Float32bits", "math.Float64bits", "math.Float64frombits"], unfollowed := true, recurses := true, apart := false, narrowed := true }
def FnExactStoreSheetUptoSaid : Prop := fnExactStoreSheetUptoRow.holds Try.pinned (OpenSpec.upto fnExactStoreSheetSpec)

/-- 'laws.FnPrimes', WHERE WHAT IT READS IS OF BULK AT MOST 1048576: true; the input reads as it did. -/
def fnPrimesUptoRow : OpenClaim := { program := "ytbjnjaclmcpbbaa", sum := "73f01c89d232a63984420dd35a0473a3fd7b535ed3d6a98e152f6b03c4d6dcc8", func := "loop.example/g01327/laws.FnPrimes", spec := "fnPrimes", unfollowed := true, recurses := true, apart := false, narrowed := true }
def FnPrimesUptoSaid : Prop := fnPrimesUptoRow.holds Try.pinned (OpenSpec.upto fnPrimesSpec)

/-- 'laws.FnShort', WHERE WHAT IT READS IS OF BULK AT MOST 1048576: true; the input reads as it did. -/
def fnShortUptoRow : OpenClaim := { program := "ytbjnjaclmcpbbaa", sum := "73f01c89d232a63984420dd35a0473a3fd7b535ed3d6a98e152f6b03c4d6dcc8", func := "loop.example/g01327/laws.FnShort", spec := "fnShort", inPlace := ["math.archFloor", "math.Float64bits", "math.Float64frombits", "math.archTrunc"], unfollowed := true, recurses := true, apart := false, narrowed := true }
def FnShortUptoSaid : Prop := fnShortUptoRow.holds Try.pinned (OpenSpec.upto fnShortSpec)

end Rows
end Go.Proofs.Ytbjnjaclmcpbbaa
