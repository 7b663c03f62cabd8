/-
  No cell of these rows narrows 'for every input' (looked for: loops, veiled, ifaces, maps, wideKeys, modest, calm, conditions, laid).
  DERIVED. THE GIVEN ROWS OF THIS SEAT. 9 by the template 'for every input the law returns true; each argument reads behind the call as it read before'; 0 by the template 'total and deterministic' (their statements: YtimlecagkbbnpaaTotals.lean).
  GIVEN WITH THE SEED: the statements are not yours to turn. If you find one false, say at which input.
  Laid BY PROGRAM, IN A SANDBOX (cutbox-rows.mjs): the forced cells as the released guide's own fill.sh prints them over the translation 7d6eb0c020240c4e… (all of the seat's roots in one cut). By AI agents, Wed Nov 11 2026. No macro, syntax, notation, axiom, sorry.
-/
import Derived.Test.YtimlecagkbbnpaaChecked
import GoSem.Claim
import GoSem.ClaimJoined
import GoSem.ClaimMapViews
import Derived.JoinedTies
import Derived.KernelRfl
namespace Go.Proofs.Ytimlecagkbbnpaa
/- THE CELL 'sum', in the pinned program and in every row, IS THE sha256 OF THE DUMP (.gsa) THAT YtimlecagkbbnpaaProg.lean LOADS. Nothing in Lean hashes anything: it is a label: what it is worth is what the hold of that sum in a sandbox is worth. -/
noncomputable def Try.pinned : Pinned := { name := "ytimlecagkbbnpaa", sum := "7d6eb0c020240c4edf5e8e37b480dfa0d4660b89064ff8f6b83909c57891128a", checked := Try.checked }
namespace Rows
def none {H : Type} : Left H := { results := [], args := [] }

/-- 'laws.FnExactDetOver': WHATEVER THE INPUT: true; the input reads as it did. -/
def fnExactDetOverSpec : ChangeSpec := { name := "fnExactDetOver", fn := fun _ => fun
  | [d1, d2] => { results := [.lit (.bool true)], args := [d1, d2] }
  | _ => none }
def fnExactDetOverRow : OpenClaim := { program := "ytimlecagkbbnpaa", sum := "7d6eb0c020240c4edf5e8e37b480dfa0d4660b89064ff8f6b83909c57891128a", func := "loop.example/g01327/laws.FnExactDetOver", spec := "fnExactDetOver", unfollowed := true, recurses := true, apart := false }
def FnExactDetOverSaid : Prop := fnExactDetOverRow.holds Try.pinned (OpenSpec.ofChange fnExactDetOverSpec)

/-- ITS FALSE NEIGHBOUR: 'it returns false'. Refute it at one input. -/
def fnExactDetOverWrong : ChangeSpec := { name := "fnExactDetOver", fn := fun _ => fun
  | [d1, d2] => { results := [.lit (.bool false)], args := [d1, d2] }
  | _ => none }
def FnExactDetOverWrongFalsely : Prop := fnExactDetOverRow.holds Try.pinned (OpenSpec.ofChange fnExactDetOverWrong)

/-- 'laws.FnExactRankOver': WHATEVER THE INPUT: true; the input reads as it did. -/
def fnExactRankOverSpec : ChangeSpec := { name := "fnExactRankOver", fn := fun _ => fun
  | [d1, d2] => { results := [.lit (.bool true)], args := [d1, d2] }
  | _ => none }
def fnExactRankOverRow : OpenClaim := { program := "ytimlecagkbbnpaa", sum := "7d6eb0c020240c4edf5e8e37b480dfa0d4660b89064ff8f6b83909c57891128a", func := "loop.example/g01327/laws.FnExactRankOver", spec := "fnExactRankOver", unfollowed := true, recurses := true, apart := false }
def FnExactRankOverSaid : Prop := fnExactRankOverRow.holds Try.pinned (OpenSpec.ofChange fnExactRankOverSpec)

/-- ITS FALSE NEIGHBOUR: 'it returns false'. Refute it at one input. -/
def fnExactRankOverWrong : ChangeSpec := { name := "fnExactRankOver", fn := fun _ => fun
  | [d1, d2] => { results := [.lit (.bool false)], args := [d1, d2] }
  | _ => none }
def FnExactRankOverWrongFalsely : Prop := fnExactRankOverRow.holds Try.pinned (OpenSpec.ofChange fnExactRankOverWrong)

/-- 'laws.FnExactSolveOver': WHATEVER THE INPUT: true; the input reads as it did. -/
def fnExactSolveOverSpec : ChangeSpec := { name := "fnExactSolveOver", fn := fun _ => fun
  | [d1, d2, d3] => { results := [.lit (.bool true)], args := [d1, d2, d3] }
  | _ => none }
def fnExactSolveOverRow : OpenClaim := { program := "ytimlecagkbbnpaa", sum := "7d6eb0c020240c4edf5e8e37b480dfa0d4660b89064ff8f6b83909c57891128a", func := "loop.example/g01327/laws.FnExactSolveOver", spec := "fnExactSolveOver", unfollowed := true, recurses := true, apart := false }
def FnExactSolveOverSaid : Prop := fnExactSolveOverRow.holds Try.pinned (OpenSpec.ofChange fnExactSolveOverSpec)

/-- ITS FALSE NEIGHBOUR: 'it returns false'. Refute it at one input. -/
def fnExactSolveOverWrong : ChangeSpec := { name := "fnExactSolveOver", fn := fun _ => fun
  | [d1, d2, d3] => { results := [.lit (.bool false)], args := [d1, d2, d3] }
  | _ => none }
def FnExactSolveOverWrongFalsely : Prop := fnExactSolveOverRow.holds Try.pinned (OpenSpec.ofChange fnExactSolveOverWrong)

/-- 'laws.FnExactNullOver': WHATEVER THE INPUT: true; the input reads as it did. -/
def fnExactNullOverSpec : ChangeSpec := { name := "fnExactNullOver", fn := fun _ => fun
  | [d1, d2] => { results := [.lit (.bool true)], args := [d1, d2] }
  | _ => none }
def fnExactNullOverRow : OpenClaim := { program := "ytimlecagkbbnpaa", sum := "7d6eb0c020240c4edf5e8e37b480dfa0d4660b89064ff8f6b83909c57891128a", func := "loop.example/g01327/laws.FnExactNullOver", spec := "fnExactNullOver", unfollowed := true, recurses := true, apart := false }
def FnExactNullOverSaid : Prop := fnExactNullOverRow.holds Try.pinned (OpenSpec.ofChange fnExactNullOverSpec)

/-- ITS FALSE NEIGHBOUR: 'it returns false'. Refute it at one input. -/
def fnExactNullOverWrong : ChangeSpec := { name := "fnExactNullOver", fn := fun _ => fun
  | [d1, d2] => { results := [.lit (.bool false)], args := [d1, d2] }
  | _ => none }
def FnExactNullOverWrongFalsely : Prop := fnExactNullOverRow.holds Try.pinned (OpenSpec.ofChange fnExactNullOverWrong)

/-- 'laws.FnExactNormalOf': WHATEVER THE INPUT: true; the input reads as it did. -/
def fnExactNormalOfSpec : ChangeSpec := { name := "fnExactNormalOf", fn := fun _ => fun
  | [d] => { results := [.lit (.bool true)], args := [d] }
  | _ => none }
def fnExactNormalOfRow : OpenClaim := { program := "ytimlecagkbbnpaa", sum := "7d6eb0c020240c4edf5e8e37b480dfa0d4660b89064ff8f6b83909c57891128a", func := "loop.example/g01327/laws.FnExactNormalOf", spec := "fnExactNormalOf", unfollowed := true, recurses := true, apart := false }
def FnExactNormalOfSaid : Prop := fnExactNormalOfRow.holds Try.pinned (OpenSpec.ofChange fnExactNormalOfSpec)

/-- ITS FALSE NEIGHBOUR: 'it returns false'. Refute it at one input. -/
def fnExactNormalOfWrong : ChangeSpec := { name := "fnExactNormalOf", fn := fun _ => fun
  | [d] => { results := [.lit (.bool false)], args := [d] }
  | _ => none }
def FnExactNormalOfWrongFalsely : Prop := fnExactNormalOfRow.holds Try.pinned (OpenSpec.ofChange fnExactNormalOfWrong)

/-- 'laws.FnExactShortRows': WHATEVER THE INPUT: true; the input reads as it did. -/
def fnExactShortRowsSpec : ChangeSpec := { name := "fnExactShortRows", fn := fun _ => fun
  | [d1, d2] => { results := [.lit (.bool true)], args := [d1, d2] }
  | _ => none }
def fnExactShortRowsRow : OpenClaim := { program := "ytimlecagkbbnpaa", sum := "7d6eb0c020240c4edf5e8e37b480dfa0d4660b89064ff8f6b83909c57891128a", func := "loop.example/g01327/laws.FnExactShortRows", spec := "fnExactShortRows", inPlace := ["math.archFloor", "math.Float64bits", "math.Float64frombits", "math.archTrunc"], unfollowed := true, recurses := true, apart := false }
def FnExactShortRowsSaid : Prop := fnExactShortRowsRow.holds Try.pinned (OpenSpec.ofChange fnExactShortRowsSpec)

/-- ITS FALSE NEIGHBOUR: 'it returns false'. Refute it at one input. -/
def fnExactShortRowsWrong : ChangeSpec := { name := "fnExactShortRows", fn := fun _ => fun
  | [d1, d2] => { results := [.lit (.bool false)], args := [d1, d2] }
  | _ => none }
def FnExactShortRowsWrongFalsely : Prop := fnExactShortRowsRow.holds Try.pinned (OpenSpec.ofChange fnExactShortRowsWrong)

/-- 'laws.FnExactMirrorRank': WHATEVER THE INPUT: true; the input reads as it did. -/
def fnExactMirrorRankSpec : ChangeSpec := { name := "fnExactMirrorRank", fn := fun _ => fun
  | [d1, d2] => { results := [.lit (.bool true)], args := [d1, d2] }
  | _ => none }
def fnExactMirrorRankRow : OpenClaim := { program := "ytimlecagkbbnpaa", sum := "7d6eb0c020240c4edf5e8e37b480dfa0d4660b89064ff8f6b83909c57891128a", func := "loop.example/g01327/laws.FnExactMirrorRank", spec := "fnExactMirrorRank", inPlace := ["math.sqrt", "math.Float64bits", "math.Float64frombits"], unfollowed := true, recurses := true, apart := false }
def FnExactMirrorRankSaid : Prop := fnExactMirrorRankRow.holds Try.pinned (OpenSpec.ofChange fnExactMirrorRankSpec)

/-- ITS FALSE NEIGHBOUR: 'it returns false'. Refute it at one input. -/
def fnExactMirrorRankWrong : ChangeSpec := { name := "fnExactMirrorRank", fn := fun _ => fun
  | [d1, d2] => { results := [.lit (.bool false)], args := [d1, d2] }
  | _ => none }
def FnExactMirrorRankWrongFalsely : Prop := fnExactMirrorRankRow.holds Try.pinned (OpenSpec.ofChange fnExactMirrorRankWrong)

/-- 'laws.FnExactThirdsShared': WHATEVER THE INPUT: true; the input reads as it did. -/
def fnExactThirdsSharedSpec : ChangeSpec := { name := "fnExactThirdsShared", fn := fun _ => fun
  | [d1, d2, d3] => { results := [.lit (.bool true)], args := [d1, d2, d3] }
  | _ => none }
def fnExactThirdsSharedRow : OpenClaim := { program := "ytimlecagkbbnpaa", sum := "7d6eb0c020240c4edf5e8e37b480dfa0d4660b89064ff8f6b83909c57891128a", func := "loop.example/g01327/laws.FnExactThirdsShared", spec := "fnExactThirdsShared", inPlace := ["math.Float64bits", "math.Float64frombits"], unfollowed := true, recurses := true, apart := false }
def FnExactThirdsSharedSaid : Prop := fnExactThirdsSharedRow.holds Try.pinned (OpenSpec.ofChange fnExactThirdsSharedSpec)

/-- ITS FALSE NEIGHBOUR: 'it returns false'. Refute it at one input. -/
def fnExactThirdsSharedWrong : ChangeSpec := { name := "fnExactThirdsShared", fn := fun _ => fun
  | [d1, d2, d3] => { results := [.lit (.bool false)], args := [d1, d2, d3] }
  | _ => none }
def FnExactThirdsSharedWrongFalsely : Prop := fnExactThirdsSharedRow.holds Try.pinned (OpenSpec.ofChange fnExactThirdsSharedWrong)

/-- 'laws.FnPrimes': WHATEVER THE INPUT: true; the input reads as it did. -/
def fnPrimesSpec : ChangeSpec := { name := "fnPrimes", fn := fun _ => fun
  | [d1, d2] => { results := [.lit (.bool true)], args := [d1, d2] }
  | _ => none }
def fnPrimesRow : OpenClaim := { program := "ytimlecagkbbnpaa", sum := "7d6eb0c020240c4edf5e8e37b480dfa0d4660b89064ff8f6b83909c57891128a", func := "loop.example/g01327/laws.FnPrimes", spec := "fnPrimes", unfollowed := true, recurses := true, apart := false }
def FnPrimesSaid : Prop := fnPrimesRow.holds Try.pinned (OpenSpec.ofChange fnPrimesSpec)

/-- ITS FALSE NEIGHBOUR: 'it returns false'. Refute it at one input. -/
def fnPrimesWrong : ChangeSpec := { name := "fnPrimes", fn := fun _ => fun
  | [d1, d2] => { results := [.lit (.bool false)], args := [d1, d2] }
  | _ => none }
def FnPrimesWrongFalsely : Prop := fnPrimesRow.holds Try.pinned (OpenSpec.ofChange fnPrimesWrong)

/- THE SECOND FORM. 'bulk': how many values and letters a reading holds, each counted each time it is reached (what is shared counts as often as it is met; a slice's spare places count too). A statement '..UptoSaid' is the law's where the arguments, and the package variables that the reading takes, are together of bulk at most 1048576: NARROWER than '..Said'. Prove '..Said' where nothing that the law and all that it calls make is longer than what came in: it says more and counts as full. Else prove '..UptoSaid'. A law counts once. -/
mutual
def uptoBulk {H : Type} : DataW H → Nat
  | .lit (.string bytes) => bytes.length + 1
  | .lit _ => 1
  | .nil => 1
  | .ptr d => uptoBulk d + 1
  | .slice elems spare => uptoBulkAll elems + uptoBulkAll spare + 1
  | .agg parts => uptoBulkAll parts + 1
  | .iface _ d => uptoBulk d + 1
  | .map entries => uptoBulkEntries entries + 1
  | .held _ => 1
def uptoBulkAll {H : Type} : List (DataW H) → Nat
  | [] => 0
  | d :: r => uptoBulk d + uptoBulkAll r
def uptoBulkEntries {H : Type} : List (Lit × DataW H) → Nat
  | [] => 0
  | x :: r => uptoBulkEntry x + uptoBulkEntries r
def uptoBulkEntry {H : Type} : Lit × DataW H → Nat
  | (.string bytes, d) => bytes.length + uptoBulk d + 1
  | (_, d) => uptoBulk d + 1
 end
def uptoSmall : (H : Type) → List (DataW H) → Bool := fun _ ds => decide (uptoBulkAll ds ≤ 1048576)
def OpenSpec.upto (s : _root_.Go.ChangeSpec) : _root_.Go.OpenSpec := { _root_.Go.OpenSpec.ofChange s with cond := some uptoSmall }

/-- 'laws.FnExactDetOver', WHERE WHAT IT READS IS OF BULK AT MOST 1048576: true; the input reads as it did. -/
def fnExactDetOverUptoRow : OpenClaim := { program := "ytimlecagkbbnpaa", sum := "7d6eb0c020240c4edf5e8e37b480dfa0d4660b89064ff8f6b83909c57891128a", func := "loop.example/g01327/laws.FnExactDetOver", spec := "fnExactDetOver", unfollowed := true, recurses := true, apart := false, narrowed := true }
def FnExactDetOverUptoSaid : Prop := fnExactDetOverUptoRow.holds Try.pinned (OpenSpec.upto fnExactDetOverSpec)

/-- 'laws.FnExactRankOver', WHERE WHAT IT READS IS OF BULK AT MOST 1048576: true; the input reads as it did. -/
def fnExactRankOverUptoRow : OpenClaim := { program := "ytimlecagkbbnpaa", sum := "7d6eb0c020240c4edf5e8e37b480dfa0d4660b89064ff8f6b83909c57891128a", func := "loop.example/g01327/laws.FnExactRankOver", spec := "fnExactRankOver", unfollowed := true, recurses := true, apart := false, narrowed := true }
def FnExactRankOverUptoSaid : Prop := fnExactRankOverUptoRow.holds Try.pinned (OpenSpec.upto fnExactRankOverSpec)

/-- 'laws.FnExactSolveOver', WHERE WHAT IT READS IS OF BULK AT MOST 1048576: true; the input reads as it did. -/
def fnExactSolveOverUptoRow : OpenClaim := { program := "ytimlecagkbbnpaa", sum := "7d6eb0c020240c4edf5e8e37b480dfa0d4660b89064ff8f6b83909c57891128a", func := "loop.example/g01327/laws.FnExactSolveOver", spec := "fnExactSolveOver", unfollowed := true, recurses := true, apart := false, narrowed := true }
def FnExactSolveOverUptoSaid : Prop := fnExactSolveOverUptoRow.holds Try.pinned (OpenSpec.upto fnExactSolveOverSpec)

/-- 'laws.FnExactNullOver', WHERE WHAT IT READS IS OF BULK AT MOST 1048576: true; the input reads as it did. -/
def fnExactNullOverUptoRow : OpenClaim := { program := "ytimlecagkbbnpaa", sum := "7d6eb0c020240c4edf5e8e37b480dfa0d4660b89064ff8f6b83909c57891128a", func := "loop.example/g01327/laws.FnExactNullOver", spec := "fnExactNullOver", unfollowed := true, recurses := true, apart := false, narrowed := true }
def FnExactNullOverUptoSaid : Prop := fnExactNullOverUptoRow.holds Try.pinned (OpenSpec.upto fnExactNullOverSpec)

/-- 'laws.FnExactNormalOf', WHERE WHAT IT READS IS OF BULK AT MOST 1048576: true; the input reads as it did. -/
def fnExactNormalOfUptoRow : OpenClaim := { program := "ytimlecagkbbnpaa", sum := "7d6eb0c020240c4edf5e8e37b480dfa0d4660b89064ff8f6b83909c57891128a", func := "loop.example/g01327/laws.FnExactNormalOf", spec := "fnExactNormalOf", unfollowed := true, recurses := true, apart := false, narrowed := true }
def FnExactNormalOfUptoSaid : Prop := fnExactNormalOfUptoRow.holds Try.pinned (OpenSpec.upto fnExactNormalOfSpec)

/-- 'laws.FnExactShortRows', WHERE WHAT IT READS IS OF BULK AT MOST 1048576: true; the input reads as it did. -/
def fnExactShortRowsUptoRow : OpenClaim := { program := "ytimlecagkbbnpaa", sum := "7d6eb0c020240c4edf5e8e37b480dfa0d4660b89064ff8f6b83909c57891128a", func := "loop.example/g01327/laws.FnExactShortRows", spec := "fnExactShortRows", inPlace := ["math.archFloor", "math.Float64bits", "math.Float64frombits", "math.archTrunc"], unfollowed := true, recurses := true, apart := false, narrowed := true }
def FnExactShortRowsUptoSaid : Prop := fnExactShortRowsUptoRow.holds Try.pinned (OpenSpec.upto fnExactShortRowsSpec)

/-- 'laws.FnExactMirrorRank', WHERE WHAT IT READS IS OF BULK AT MOST 1048576: true; the input reads as it did. -/
def fnExactMirrorRankUptoRow : OpenClaim := { program := "ytimlecagkbbnpaa", sum := "7d6eb0c020240c4edf5e8e37b480dfa0d4660b89064ff8f6b83909c57891128a", func := "loop.example/g01327/laws.FnExactMirrorRank", spec := "fnExactMirrorRank", inPlace := ["math.sqrt", "math.Float64bits", "math.Float64frombits"], unfollowed := true, recurses := true, apart := false, narrowed := true }
def FnExactMirrorRankUptoSaid : Prop := fnExactMirrorRankUptoRow.holds Try.pinned (OpenSpec.upto fnExactMirrorRankSpec)

/-- 'laws.FnExactThirdsShared', WHERE WHAT IT READS IS OF BULK AT MOST 1048576: true; the input reads as it did. -/
def fnExactThirdsSharedUptoRow : OpenClaim := { program := "ytimlecagkbbnpaa", sum := "7d6eb0c020240c4edf5e8e37b480dfa0d4660b89064ff8f6b83909c57891128a", func := "loop.example/g01327/laws.FnExactThirdsShared", spec := "fnExactThirdsShared", inPlace := ["math.Float64bits", "math.Float64frombits"], unfollowed := true, recurses := true, apart := false, narrowed := true }
def FnExactThirdsSharedUptoSaid : Prop := fnExactThirdsSharedUptoRow.holds Try.pinned (OpenSpec.upto fnExactThirdsSharedSpec)

/-- 'laws.FnPrimes', WHERE WHAT IT READS IS OF BULK AT MOST 1048576: true; the input reads as it did. -/
def fnPrimesUptoRow : OpenClaim := { program := "ytimlecagkbbnpaa", sum := "7d6eb0c020240c4edf5e8e37b480dfa0d4660b89064ff8f6b83909c57891128a", func := "loop.example/g01327/laws.FnPrimes", spec := "fnPrimes", unfollowed := true, recurses := true, apart := false, narrowed := true }
def FnPrimesUptoSaid : Prop := fnPrimesUptoRow.holds Try.pinned (OpenSpec.upto fnPrimesSpec)

end Rows
end Go.Proofs.Ytimlecagkbbnpaa
