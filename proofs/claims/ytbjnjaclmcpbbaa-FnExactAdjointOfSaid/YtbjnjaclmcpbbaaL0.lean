/- What the laws' own helpers come to: copies, comparisons, marks. -/
import Derived.Test.YtbjnjaclmcpbbaaX1
import Derived.Test.YtbjnjaclmcpbbaaD17
set_option linter.unusedSimpArgs false
set_option linter.unusedVariables false
namespace Go.Proofs.Ytbjnjaclmcpbbaa.AM

end Go.Proofs.Ytbjnjaclmcpbbaa.AM
