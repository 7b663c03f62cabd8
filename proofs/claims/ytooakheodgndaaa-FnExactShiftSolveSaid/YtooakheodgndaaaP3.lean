/- Mirrors: the factor. -/
import Derived.Test.YtooakheodgndaaaM2
set_option linter.unusedSimpArgs false
set_option linter.unusedVariables false
namespace Go.Proofs.Ytooakheodgndaaa.AM

noncomputable def divL (y : Nat) (xs : List Nat) : List Nat := (List.range xs.length).map fun i => fdiv .f32 (nth xs i) y
end Go.Proofs.Ytooakheodgndaaa.AM
