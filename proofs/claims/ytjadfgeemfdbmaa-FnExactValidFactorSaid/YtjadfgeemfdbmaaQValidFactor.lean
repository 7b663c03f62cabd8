/- The law ValidFactor: both sides, and the law. -/
import Derived.Test.YtjadfgeemfdbmaaFA0
set_option linter.unusedSimpArgs false
set_option linter.unusedVariables false
set_option maxHeartbeats 1000000
namespace Go.Proofs.Ytjadfgeemfdbmaa.AM

theorem vf_both (x0 x1 : Int) (x2 : List Nat) (x3 : List Int) (h2 : x2.length ≤ maxN) (h3 : x3.length ≤ maxN) : ∃ r, impl_ValidFactor_g x0 x1 x2 x3 = some r ∧ spec_ValidFactor_g x0 x1 x2 x3 = some r :=
  ⟨facB x0 x1 x2 x3, facI x0 x1 x2 x3 h2, by simp only [spec_ValidFactor_g, spec_ValidFactor_T, Tree.run, facS x0 x1 x2 x3 h2, Option.bind_some]⟩
theorem vf_law (x0 : Int) (x1 : Int) (x2 : List Nat) (x3 : List Int) (h0 : -9223372036854775808 ≤ x0 ∧ x0 < 9223372036854775808) (h1 : -9223372036854775808 ≤ x1 ∧ x1 < 9223372036854775808) (h2 : x2.length ≤ maxN) (h3 : x3.length ≤ maxN) : laws_FnExactValidFactor_g x0 x1 x2 x3 = some true := by
  have q2 := h2
  have q3 := h3
  unfold maxN at q2 q3
  obtain ⟨r, i1, i2⟩ := vf_both x0 x1 x2 x3 h2 h3
  cases z0 : decide (laws_szFactor_v x2 x3 (1048576) < 0)
  case true => simp only [laws_FnExactValidFactor_g, laws_FnExactValidFactor_T, Tree.run, z0, decide_false, Bool.false_eq_true, if_false, if_true] <;> simp [Tree.run, z0]
  cases r with
  | true =>
    simp only [laws_FnExactValidFactor_g, laws_FnExactValidFactor_T, Tree.run, i1, i2, toFa_ok x0 x1 x2 x3 h2 h3, eqFa_self x0 x1 x2 x3 h2 h3, z0, Option.bind_some, Bool.false_eq_true, if_false, if_true, decide_true, Bool.not_true, Bool.not_false, beq_self_eq_true, marks_length, marksI_length]
    first | done | simp [Tree.run]
  | false =>
    simp only [laws_FnExactValidFactor_g, laws_FnExactValidFactor_T, Tree.run, i1, i2, toFa_ok x0 x1 x2 x3 h2 h3, eqFa_self x0 x1 x2 x3 h2 h3, z0, Option.bind_some, Bool.false_eq_true, if_false, if_true, decide_true, Bool.not_true, Bool.not_false, beq_self_eq_true, marks_length, marksI_length]
    first | done | simp [Tree.run]
theorem vf_lawL (x0 : Int) (x1 : Int) (x2 : Nat) (x3 : Nat) (h0 : -9223372036854775808 ≤ x0 ∧ x0 < 9223372036854775808) (h1 : -9223372036854775808 ≤ x1 ∧ x1 < 9223372036854775808) (h2 : x2 < 9223372036854775808) (h3 : x3 < 9223372036854775808) (big : maxN < x2 ∨ maxN < x3) : laws_FnExactValidFactor_len_g x2 x3 = some true := by
  have big0 := big
  unfold maxN at big
  have e : decide (laws_szFactor_len_v x2 x3 (1048576) < 0) = true := szFa_len x2 x3 (1048576) h2 h3 (by omega) (by omega) (by unfold maxN; omega)
  simp [laws_FnExactValidFactor_len_g, laws_FnExactValidFactor_len_T, Tree.run, e]
end Go.Proofs.Ytjadfgeemfdbmaa.AM
