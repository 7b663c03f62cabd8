/- What the laws' own helpers come to: copies, comparisons, marks. -/
import Derived.Test.YtimlecagkbbnpaaX1
import Derived.Test.YtimlecagkbbnpaaD17
set_option linter.unusedSimpArgs false
set_option linter.unusedVariables false
namespace Go.Proofs.Ytimlecagkbbnpaa.AM

end Go.Proofs.Ytimlecagkbbnpaa.AM
