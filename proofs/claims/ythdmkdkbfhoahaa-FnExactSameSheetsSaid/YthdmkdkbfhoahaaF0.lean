/- What is finite: the program's words and the reference's. -/
import Derived.Test.YthdmkdkbfhoahaaX1
import Derived.Test.YthdmkdkbfhoahaaD17
set_option linter.unusedSimpArgs false
set_option linter.unusedVariables false
namespace Go.Proofs.Ythdmkdkbfhoahaa.AM

end Go.Proofs.Ythdmkdkbfhoahaa.AM
