/- What the laws' own helpers come to: copies, comparisons, marks. -/
import Derived.Test.YthdmkdkbfhoahaaX1
import Derived.Test.YthdmkdkbfhoahaaD17
set_option linter.unusedSimpArgs false
set_option linter.unusedVariables false
namespace Go.Proofs.Ythdmkdkbfhoahaa.AM

end Go.Proofs.Ythdmkdkbfhoahaa.AM
