/-
  No cell of these rows narrows 'for every input' (looked for: loops, veiled, ifaces, maps, wideKeys, modest, calm, conditions, laid).
  DERIVED. THE GIVEN ROWS OF THIS SEAT. 6 by the template 'for every input the law returns true; each argument reads behind the call as it read before'; 0 by the template 'total and deterministic' (their statements: YthdmkdkbfhoahaaTotals.lean).
  GIVEN WITH THE SEED: the statements are not yours to turn. If you find one false, say at which input.
  Laid BY PROGRAM, IN A SANDBOX (cutbox-rows.mjs): the forced cells as the released guide's own fill.sh prints them over the translation f73ecc5e9300a11f… (all of the seat's roots in one cut). By AI agents, Wed Nov 11 2026. No macro, syntax, notation, axiom, sorry.
-/
import Derived.Test.YthdmkdkbfhoahaaChecked
import GoSem.Claim
import GoSem.ClaimJoined
import GoSem.ClaimMapViews
import Derived.JoinedTies
import Derived.KernelRfl
namespace Go.Proofs.Ythdmkdkbfhoahaa
/- THE CELL 'sum', in the pinned program and in every row, IS THE sha256 OF THE DUMP (.gsa) THAT YthdmkdkbfhoahaaProg.lean LOADS. Nothing in Lean hashes anything: it is a label: what it is worth is what the hold of that sum in a sandbox is worth. -/
noncomputable def Try.pinned : Pinned := { name := "ythdmkdkbfhoahaa", sum := "f73ecc5e9300a11f42549fb10493c06eed5ac60d62d3bbf3f56d903fa06bfcee", checked := Try.checked }
namespace Rows
def none {H : Type} : Left H := { results := [], args := [] }

/-- 'laws.FnExactStoreSheet': WHATEVER THE INPUT: true; the input reads as it did. -/
def fnExactStoreSheetSpec : ChangeSpec := { name := "fnExactStoreSheet", fn := fun _ => fun
  | [d] => { results := [.lit (.bool true)], args := [d] }
  | _ => none }
def fnExactStoreSheetRow : OpenClaim := { program := "ythdmkdkbfhoahaa", sum := "f73ecc5e9300a11f42549fb10493c06eed5ac60d62d3bbf3f56d903fa06bfcee", func := "loop.example/g01327/laws.FnExactStoreSheet", spec := "fnExactStoreSheet", inPlace := ["math.Float32bits", "math.Float64bits", "math.Float64frombits"], unfollowed := true, recurses := true, apart := false }
def FnExactStoreSheetSaid : Prop := fnExactStoreSheetRow.holds Try.pinned (OpenSpec.ofChange fnExactStoreSheetSpec)

/-- ITS FALSE NEIGHBOUR: 'it returns false'. Refute it at one input. -/
def fnExactStoreSheetWrong : ChangeSpec := { name := "fnExactStoreSheet", fn := fun _ => fun
  | [d] => { results := [.lit (.bool false)], args := [d] }
  | _ => none }
def FnExactStoreSheetWrongFalsely : Prop := fnExactStoreSheetRow.holds Try.pinned (OpenSpec.ofChange fnExactStoreSheetWrong)

/-- 'laws.FnExactLoadSheet': WHATEVER THE INPUT: true; the input reads as it did. -/
def fnExactLoadSheetSpec : ChangeSpec := { name := "fnExactLoadSheet", fn := fun _ => fun
  | [d] => { results := [.lit (.bool true)], args := [d] }
  | _ => none }
def fnExactLoadSheetRow : OpenClaim := { program := "ythdmkdkbfhoahaa", sum := "f73ecc5e9300a11f42549fb10493c06eed5ac60d62d3bbf3f56d903fa06bfcee", func := "loop.example/g01327/laws.FnExactLoadSheet", spec := "fnExactLoadSheet", inPlace := ["math.Float32frombits", "math.Float32bits", "math.Float64bits", "math.Float64frombits"], unfollowed := true, recurses := true, apart := false }
def FnExactLoadSheetSaid : Prop := fnExactLoadSheetRow.holds Try.pinned (OpenSpec.ofChange fnExactLoadSheetSpec)

/-- ITS FALSE NEIGHBOUR: 'it returns false'. Refute it at one input. -/
def fnExactLoadSheetWrong : ChangeSpec := { name := "fnExactLoadSheet", fn := fun _ => fun
  | [d] => { results := [.lit (.bool false)], args := [d] }
  | _ => none }
def FnExactLoadSheetWrongFalsely : Prop := fnExactLoadSheetRow.holds Try.pinned (OpenSpec.ofChange fnExactLoadSheetWrong)

/-- 'laws.FnExactSameSheets': WHATEVER THE INPUT: true; the input reads as it did. -/
def fnExactSameSheetsSpec : ChangeSpec := { name := "fnExactSameSheets", fn := fun _ => fun
  | [d1, d2] => { results := [.lit (.bool true)], args := [d1, d2] }
  | _ => none }
def fnExactSameSheetsRow : OpenClaim := { program := "ythdmkdkbfhoahaa", sum := "f73ecc5e9300a11f42549fb10493c06eed5ac60d62d3bbf3f56d903fa06bfcee", func := "loop.example/g01327/laws.FnExactSameSheets", spec := "fnExactSameSheets", inPlace := ["math.Float32bits", "math.Float64bits"], unfollowed := true, recurses := true, apart := false }
def FnExactSameSheetsSaid : Prop := fnExactSameSheetsRow.holds Try.pinned (OpenSpec.ofChange fnExactSameSheetsSpec)

/-- ITS FALSE NEIGHBOUR: 'it returns false'. Refute it at one input. -/
def fnExactSameSheetsWrong : ChangeSpec := { name := "fnExactSameSheets", fn := fun _ => fun
  | [d1, d2] => { results := [.lit (.bool false)], args := [d1, d2] }
  | _ => none }
def FnExactSameSheetsWrongFalsely : Prop := fnExactSameSheetsRow.holds Try.pinned (OpenSpec.ofChange fnExactSameSheetsWrong)

/-- 'laws.FnExactStoreSheets': WHATEVER THE INPUT: true; the input reads as it did. -/
def fnExactStoreSheetsSpec : ChangeSpec := { name := "fnExactStoreSheets", fn := fun _ => fun
  | [d] => { results := [.lit (.bool true)], args := [d] }
  | _ => none }
def fnExactStoreSheetsRow : OpenClaim := { program := "ythdmkdkbfhoahaa", sum := "f73ecc5e9300a11f42549fb10493c06eed5ac60d62d3bbf3f56d903fa06bfcee", func := "loop.example/g01327/laws.FnExactStoreSheets", spec := "fnExactStoreSheets", inPlace := ["math.Float32bits", "math.Float64bits", "math.Float64frombits"], unfollowed := true, recurses := true, apart := false }
def FnExactStoreSheetsSaid : Prop := fnExactStoreSheetsRow.holds Try.pinned (OpenSpec.ofChange fnExactStoreSheetsSpec)

/-- ITS FALSE NEIGHBOUR: 'it returns false'. Refute it at one input. -/
def fnExactStoreSheetsWrong : ChangeSpec := { name := "fnExactStoreSheets", fn := fun _ => fun
  | [d] => { results := [.lit (.bool false)], args := [d] }
  | _ => none }
def FnExactStoreSheetsWrongFalsely : Prop := fnExactStoreSheetsRow.holds Try.pinned (OpenSpec.ofChange fnExactStoreSheetsWrong)

/-- 'laws.FnExactRecoverSheets': WHATEVER THE INPUT: true; the input reads as it did. -/
def fnExactRecoverSheetsSpec : ChangeSpec := { name := "fnExactRecoverSheets", fn := fun _ => fun
  | [d] => { results := [.lit (.bool true)], args := [d] }
  | _ => none }
def fnExactRecoverSheetsRow : OpenClaim := { program := "ythdmkdkbfhoahaa", sum := "f73ecc5e9300a11f42549fb10493c06eed5ac60d62d3bbf3f56d903fa06bfcee", func := "loop.example/g01327/laws.FnExactRecoverSheets", spec := "fnExactRecoverSheets", inPlace := ["math.Float32frombits", "math.Float32bits", "math.Float64bits", "math.Float64frombits"], unfollowed := true, recurses := true, apart := false }
def FnExactRecoverSheetsSaid : Prop := fnExactRecoverSheetsRow.holds Try.pinned (OpenSpec.ofChange fnExactRecoverSheetsSpec)

/-- ITS FALSE NEIGHBOUR: 'it returns false'. Refute it at one input. -/
def fnExactRecoverSheetsWrong : ChangeSpec := { name := "fnExactRecoverSheets", fn := fun _ => fun
  | [d] => { results := [.lit (.bool false)], args := [d] }
  | _ => none }
def FnExactRecoverSheetsWrongFalsely : Prop := fnExactRecoverSheetsRow.holds Try.pinned (OpenSpec.ofChange fnExactRecoverSheetsWrong)

/-- 'laws.FnSheets': WHATEVER THE INPUT: true; the input reads as it did. -/
def fnSheetsSpec : ChangeSpec := { name := "fnSheets", fn := fun _ => fun
  | [d1, d2] => { results := [.lit (.bool true)], args := [d1, d2] }
  | _ => none }
def fnSheetsRow : OpenClaim := { program := "ythdmkdkbfhoahaa", sum := "f73ecc5e9300a11f42549fb10493c06eed5ac60d62d3bbf3f56d903fa06bfcee", func := "loop.example/g01327/laws.FnSheets", spec := "fnSheets", inPlace := ["math.Float64bits", "math.Float64frombits", "math.Float32bits", "math.Float32frombits"], unfollowed := true, recurses := true, apart := false }
def FnSheetsSaid : Prop := fnSheetsRow.holds Try.pinned (OpenSpec.ofChange fnSheetsSpec)

/-- ITS FALSE NEIGHBOUR: 'it returns false'. Refute it at one input. -/
def fnSheetsWrong : ChangeSpec := { name := "fnSheets", fn := fun _ => fun
  | [d1, d2] => { results := [.lit (.bool false)], args := [d1, d2] }
  | _ => none }
def FnSheetsWrongFalsely : Prop := fnSheetsRow.holds Try.pinned (OpenSpec.ofChange fnSheetsWrong)

/- THE SECOND FORM. 'bulk': how many values and letters a reading holds, each counted each time it is reached (what is shared counts as often as it is met; a slice's spare places count too). A statement '..UptoSaid' is the law's where the arguments, and the package variables that the reading takes, are together of bulk at most 1048576: NARROWER than '..Said'. Prove '..Said' where nothing that the law and all that it calls make is longer than what came in: it says more and counts as full. Else prove '..UptoSaid'. A law counts once. -/
mutual
def uptoBulk {H : Type} : DataW H → Nat
  | .lit (.string bytes) => bytes.length + 1
  | .lit _ => 1
  | .nil => 1
  | .ptr d => uptoBulk d + 1
  | .slice elems spare => uptoBulkAll elems + uptoBulkAll spare + 1
  | .agg parts => uptoBulkAll parts + 1
  | .iface _ d => uptoBulk d + 1
  | .map entries => uptoBulkEntries entries + 1
  | .held _ => 1
def uptoBulkAll {H : Type} : List (DataW H) → Nat
  | [] => 0
  | d :: r => uptoBulk d + uptoBulkAll r
def uptoBulkEntries {H : Type} : List (Lit × DataW H) → Nat
  | [] => 0
  | x :: r => uptoBulkEntry x + uptoBulkEntries r
def uptoBulkEntry {H : Type} : Lit × DataW H → Nat
  | (.string bytes, d) => bytes.length + uptoBulk d + 1
  | (_, d) => uptoBulk d + 1
 end
def uptoSmall : (H : Type) → List (DataW H) → Bool := fun _ ds => decide (uptoBulkAll ds ≤ 1048576)
def OpenSpec.upto (s : _root_.Go.ChangeSpec) : _root_.Go.OpenSpec := { _root_.Go.OpenSpec.ofChange s with cond := some uptoSmall }

/-- 'laws.FnExactStoreSheet', WHERE WHAT IT READS IS OF BULK AT MOST 1048576: true; the input reads as it did. -/
def fnExactStoreSheetUptoRow : OpenClaim := { program := "ythdmkdkbfhoahaa", sum := "f73ecc5e9300a11f42549fb10493c06eed5ac60d62d3bbf3f56d903fa06bfcee", func := "loop.example/g01327/laws.FnExactStoreSheet", spec := "fnExactStoreSheet", inPlace := ["math.Float32bits", "math.Float64bits", "math.Float64frombits"], unfollowed := true, recurses := true, apart := false, narrowed := true }
def FnExactStoreSheetUptoSaid : Prop := fnExactStoreSheetUptoRow.holds Try.pinned (OpenSpec.upto fnExactStoreSheetSpec)

/-- 'laws.FnExactLoadSheet', WHERE WHAT IT READS IS OF BULK AT MOST 1048576: true; the input reads as it did. -/
def fnExactLoadSheetUptoRow : OpenClaim := { program := "ythdmkdkbfhoahaa", sum := "f73ecc5e9300a11f42549fb10493c06eed5ac60d62d3bbf3f56d903fa06bfcee", func := "loop.example/g01327/laws.FnExactLoadSheet", spec := "fnExactLoadSheet", inPlace := ["math.Float32frombits", "math.Float32bits", "math.Float64bits", "math.Float64frombits"], unfollowed := true, recurses := true, apart := false, narrowed := true }
def FnExactLoadSheetUptoSaid : Prop := fnExactLoadSheetUptoRow.holds Try.pinned (OpenSpec.upto fnExactLoadSheetSpec)

/-- 'laws.FnExactSameSheets', WHERE WHAT IT READS IS OF BULK AT MOST 1048576: true; the input reads as it did. -/
def fnExactSameSheetsUptoRow : OpenClaim := { program := "ythdmkdkbfhoahaa", sum := "f73ecc5e9300a11f42549fb10493c06eed5ac60d62d3bbf3f56d903fa06bfcee", func := "loop.example/g01327/laws.FnExactSameSheets", spec := "fnExactSameSheets", inPlace := ["math.Float32bits", "math.Float64bits"], unfollowed := true, recurses := true, apart := false, narrowed := true }
def FnExactSameSheetsUptoSaid : Prop := fnExactSameSheetsUptoRow.holds Try.pinned (OpenSpec.upto fnExactSameSheetsSpec)

/-- 'laws.FnExactStoreSheets', WHERE WHAT IT READS IS OF BULK AT MOST 1048576: true; the input reads as it did. -/
def fnExactStoreSheetsUptoRow : OpenClaim := { program := "ythdmkdkbfhoahaa", sum := "f73ecc5e9300a11f42549fb10493c06eed5ac60d62d3bbf3f56d903fa06bfcee", func := "loop.example/g01327/laws.FnExactStoreSheets", spec := "fnExactStoreSheets", inPlace := ["math.Float32bits", "math.Float64bits", "math.Float64frombits"], unfollowed := true, recurses := true, apart := false, narrowed := true }
def FnExactStoreSheetsUptoSaid : Prop := fnExactStoreSheetsUptoRow.holds Try.pinned (OpenSpec.upto fnExactStoreSheetsSpec)

/-- 'laws.FnExactRecoverSheets', WHERE WHAT IT READS IS OF BULK AT MOST 1048576: true; the input reads as it did. -/
def fnExactRecoverSheetsUptoRow : OpenClaim := { program := "ythdmkdkbfhoahaa", sum := "f73ecc5e9300a11f42549fb10493c06eed5ac60d62d3bbf3f56d903fa06bfcee", func := "loop.example/g01327/laws.FnExactRecoverSheets", spec := "fnExactRecoverSheets", inPlace := ["math.Float32frombits", "math.Float32bits", "math.Float64bits", "math.Float64frombits"], unfollowed := true, recurses := true, apart := false, narrowed := true }
def FnExactRecoverSheetsUptoSaid : Prop := fnExactRecoverSheetsUptoRow.holds Try.pinned (OpenSpec.upto fnExactRecoverSheetsSpec)

/-- 'laws.FnSheets', WHERE WHAT IT READS IS OF BULK AT MOST 1048576: true; the input reads as it did. -/
def fnSheetsUptoRow : OpenClaim := { program := "ythdmkdkbfhoahaa", sum := "f73ecc5e9300a11f42549fb10493c06eed5ac60d62d3bbf3f56d903fa06bfcee", func := "loop.example/g01327/laws.FnSheets", spec := "fnSheets", inPlace := ["math.Float64bits", "math.Float64frombits", "math.Float32bits", "math.Float32frombits"], unfollowed := true, recurses := true, apart := false, narrowed := true }
def FnSheetsUptoSaid : Prop := fnSheetsUptoRow.holds Try.pinned (OpenSpec.upto fnSheetsSpec)

end Rows
end Go.Proofs.Ythdmkdkbfhoahaa
