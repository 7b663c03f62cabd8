/- The factor with a middle. -/
import Derived.Test.YtooakheodgndaaaP5
set_option linter.unusedSimpArgs false
set_option linter.unusedVariables false
namespace Go.Proofs.Ytooakheodgndaaa.AM

def unitL (n : Nat) : List Nat := rc n n fun i k => if i = k then 1065353216 else 0
@[simp] theorem unitL_length (n : Nat) : (unitL n).length = n * n := by simp [unitL]
end Go.Proofs.Ytooakheodgndaaa.AM
