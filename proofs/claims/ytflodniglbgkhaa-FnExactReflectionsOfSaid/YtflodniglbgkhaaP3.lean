/- Mirrors: the factor. -/
import Derived.Test.YtflodniglbgkhaaM2
set_option linter.unusedSimpArgs false
set_option linter.unusedVariables false
namespace Go.Proofs.Ytflodniglbgkhaa.AM

noncomputable def divL (y : Nat) (xs : List Nat) : List Nat := (List.range xs.length).map fun i => fdiv .f32 (nth xs i) y
end Go.Proofs.Ytflodniglbgkhaa.AM
