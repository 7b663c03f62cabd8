/- What is finite: the program's words and the reference's. -/
import Derived.Test.YtimlecagkbbnpaaX1
import Derived.Test.YtimlecagkbbnpaaD17
set_option linter.unusedSimpArgs false
set_option linter.unusedVariables false
namespace Go.Proofs.Ytimlecagkbbnpaa.AM

theorem inR (n a b : Int) : impl_inRange_v n a b = (decide (a ≤ n) && decide (n ≤ b)) := by
  unfold impl_inRange_v
  cases decide (a ≤ n) <;> simp
end Go.Proofs.Ytimlecagkbbnpaa.AM
