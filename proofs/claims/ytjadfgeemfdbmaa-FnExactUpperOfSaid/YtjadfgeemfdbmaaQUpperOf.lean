/- The law UpperOf: both sides, and the law. -/
import Derived.Test.YtjadfgeemfdbmaaFA0
set_option linter.unusedSimpArgs false
set_option linter.unusedVariables false
set_option maxHeartbeats 1000000
namespace Go.Proofs.Ytjadfgeemfdbmaa.AM

theorem uo_both (x0 x1 : Int) (x2 : List Nat) (x3 : List Int) (h2 : x2.length ≤ maxN) (h3 : x3.length ≤ maxN) :
    ∃ r, impl_UpperOf_g x0 x1 x2 x3 = some r ∧ spec_UpperOf_g x0 x1 x2 x3 = some r ∧ ∀ d, r = .inr d → d.2.2.length ≤ 144 := by
  have vI := facI x0 x1 x2 x3 h2
  have vS := facS x0 x1 x2 x3 h2
  cases hv : facB x0 x1 x2 x3 with
  | false =>
    rw [hv] at vI vS
    exact ⟨.inl (), by simp only [impl_UpperOf_g, impl_UpperOf_T, Tree.run, vI, Option.bind_some, Bool.not_false, if_true], by simp only [spec_UpperOf_g, spec_UpperOf_T, Tree.run, vS, Option.bind_some, Bool.not_false, if_true], fun d h => by cases h⟩
  | true =>
    rw [hv] at vI vS
    obtain ⟨n, rfl, rfl, n1, n2, hl, _⟩ := fac_shape hv
    refine ⟨.inr ((n : Int), (n : Int), upL n n x2), ?_, ?_, fun d h => ?_⟩
    · simp only [impl_UpperOf_g, impl_UpperOf_T, Tree.run, vI, upI n2 n2 hl, Option.bind_some, Bool.not_true, Bool.false_eq_true, if_false]
    · simp only [spec_UpperOf_g, spec_UpperOf_T, Tree.run, vS, upS n2 hl, Option.bind_some, Bool.not_true, Bool.false_eq_true, if_false]
    · cases h
      have := le144 n2 n2
      simp only [upL_length]; omega
theorem uo_law (x0 : Int) (x1 : Int) (x2 : List Nat) (x3 : List Int) (h0 : -9223372036854775808 ≤ x0 ∧ x0 < 9223372036854775808) (h1 : -9223372036854775808 ≤ x1 ∧ x1 < 9223372036854775808) (h2 : x2.length ≤ maxN) (h3 : x3.length ≤ maxN) : laws_FnExactUpperOf_g x0 x1 x2 x3 = some true := by
  have q2 := h2
  have q3 := h3
  unfold maxN at q2 q3
  obtain ⟨r, i1, i2, i3⟩ := uo_both x0 x1 x2 x3 h2 h3
  have enM := eqM_self 0 0 [] (by simp [maxN])
  have hnM := heldM_nil 1 (by omega) (by omega)
  have m0 := markFa_ok x2 x3 (1) h2 h3 (by omega) (by omega)
  have g1 : decide (((1 : Int) + x2.length + x3.length : Int) < 0) = false := by simp; omega
  cases z0 : decide (laws_szFactor_v x2 x3 (1048576) < 0)
  case true => simp only [laws_FnExactUpperOf_g, laws_FnExactUpperOf_T, Tree.run, z0, decide_false, Bool.false_eq_true, if_false, if_true] <;> simp [Tree.run, z0]
  cases r with
  | inl u =>
    simp only [laws_FnExactUpperOf_g, laws_FnExactUpperOf_T, Tree.run, i1, i2, enM, hnM, markM_nil, m0, toFa_ok x0 x1 x2 x3 h2 h3, eqFa_self x0 x1 x2 x3 h2 h3, g1, z0, Option.bind_some, Bool.false_eq_true, if_false, if_true, decide_true, Bool.not_true, Bool.not_false, beq_self_eq_true, marks_length, marksI_length]
    first | done | simp [Tree.run]
  | inr d =>
    obtain ⟨a0, b0, d0_⟩ := d
    have hd := i3 _ rfl
    simp only at hd
    have e0 := hd
    have hd0 : d0_.length ≤ maxN := by unfold maxN; omega
    have md0 := markM_ok d0_ (1) hd0 (by omega) (by omega)
    have hl0 := heldM_ok (1) d0_.length hd0 (by omega) (by omega)
    have g20 : decide (((1 : Int) + d0_.length : Int) < 0) = false := by simp; omega
    simp only [laws_FnExactUpperOf_g, laws_FnExactUpperOf_T, Tree.run, i1, i2, enM, hnM, markM_nil, m0, toFa_ok x0 x1 x2 x3 h2 h3, eqFa_self x0 x1 x2 x3 h2 h3, g1, z0, md0, hl0, g20, eqM_self a0 b0 d0_ hd0, Option.bind_some, Bool.false_eq_true, if_false, if_true, decide_true, Bool.not_true, Bool.not_false, beq_self_eq_true, marks_length, marksI_length]
    first | done | simp [Tree.run]
theorem uo_lawL (x0 : Int) (x1 : Int) (x2 : Nat) (x3 : Nat) (h0 : -9223372036854775808 ≤ x0 ∧ x0 < 9223372036854775808) (h1 : -9223372036854775808 ≤ x1 ∧ x1 < 9223372036854775808) (h2 : x2 < 9223372036854775808) (h3 : x3 < 9223372036854775808) (big : maxN < x2 ∨ maxN < x3) : laws_FnExactUpperOf_len_g x2 x3 = some true := by
  have big0 := big
  unfold maxN at big
  have e : decide (laws_szFactor_len_v x2 x3 (1048576) < 0) = true := szFa_len x2 x3 (1048576) h2 h3 (by omega) (by omega) (by unfold maxN; omega)
  simp [laws_FnExactUpperOf_len_g, laws_FnExactUpperOf_len_T, Tree.run, e]
end Go.Proofs.Ytjadfgeemfdbmaa.AM
