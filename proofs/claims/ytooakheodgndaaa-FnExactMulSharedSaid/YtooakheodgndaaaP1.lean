/- The product by many hands. -/
import Derived.Test.YtooakheodgndaaaM1
set_option linter.unusedSimpArgs false
set_option linter.unusedVariables false
namespace Go.Proofs.Ytooakheodgndaaa.AM

theorem ms_both (r1 c1 : Int) (x1 : List Nat) (r2 c2 : Int) (x2 : List Nat) (w : Int) (h1 : x1.length ≤ maxN) (h2 : x2.length ≤ maxN) (hw : -9223372036854775808 ≤ w ∧ w < 9223372036854775808) :
    ∃ r, impl_MulShared_g r1 c1 x1 r2 c2 x2 w = some r ∧ spec_MulShared_g r1 c1 x1 r2 c2 x2 w = some r ∧ ∀ d, r = .inr d → d.2.2.length ≤ 144 := by
  have eI := areFacI r1 c1 x1 r2 c2 x2 h1 h2
  have eS := fitS r1 c1 x1 r2 c2 x2 h1 h2
  cases hb : (vm r1 c1 x1 && vm r2 c2 x2 && decide (c1 = r2)) with
  | false =>
    rw [hb] at eI eS
    refine ⟨.inl (), ?_, ?_, fun d h => by cases h⟩
    · simp only [impl_MulShared_g, impl_MulShared_T, impl_MulMatrices_g, impl_MulMatrices_T, Tree.run, eI, Option.bind_some]
      cases impl_inRange_v w 1 8 <;> simp [Tree.run]
    · simp [spec_MulShared_g, spec_MulShared_T, Tree.run, eS]
  | true =>
    rw [hb] at eI eS
    simp only [Bool.and_eq_true, decide_eq_true_eq] at hb
    obtain ⟨⟨v1, v2⟩, rfl⟩ := hb
    obtain ⟨n, m, rfl, rfl, a1, a2, a3, a4, a5, a6⟩ := vm_shape v1
    obtain ⟨m', q, e, rfl, b1, b2, b3, b4, b5, b6⟩ := vm_shape v2
    have e : m = m' := by omega
    subst e
    have gI := mulI (q := q) a3 a2 a4 b4 a5 b5
    have gS := mulS (q := q) a2 a4 b4 a5 b5
    have hl := mulL_length n m q x1 x2
    have hb := le144 a2 b4
    generalize mulL n m q x1 x2 = d at gI gS hl
    have kI := validR a1 a2 b3 b4 hl
    have kS := giveR a1 a2 b3 b4 hl
    have hin : impl_inRange_v w 1 8 = spec_l00In_v w 1 8 := rfl
    cases hv : spec_l00In_v w 1 8 with
    | false =>
      refine ⟨.inl (), ?_, ?_, fun d h => by cases h⟩
      · simp [impl_MulShared_g, impl_MulShared_T, Tree.run, hin, hv]
      · simp [spec_MulShared_g, spec_MulShared_T, Tree.run, eS, hv]
    | true =>
      refine ⟨if d.all sfin = true then .inr ((n : Int), (q : Int), d) else .inl (), ?_, ?_, ?_⟩
      · simp only [impl_MulShared_g, impl_MulShared_T, impl_MulMatrices_g, impl_MulMatrices_T, Tree.run, hin, hv, eI, gI, kI, Option.bind_some, Bool.not_true, Bool.false_eq_true, if_false]
        split <;> simp [Tree.run]
      · simp only [spec_MulShared_g, spec_MulShared_T, Tree.run, hv, eS, gS, kS, Option.bind_some, Bool.not_true, Bool.false_eq_true, if_false]
        split <;> simp [Tree.run]
      · intro d' h'
        split at h'
        · cases h'; simp only; omega
        · cases h'
theorem ms_law (x0 : Int) (x1 : Int) (x2 : List Nat) (x3 : Int) (x4 : Int) (x5 : List Nat) (x6 : Int) (h0 : -9223372036854775808 ≤ x0 ∧ x0 < 9223372036854775808) (h1 : -9223372036854775808 ≤ x1 ∧ x1 < 9223372036854775808) (h2 : x2.length ≤ maxN) (h3 : -9223372036854775808 ≤ x3 ∧ x3 < 9223372036854775808) (h4 : -9223372036854775808 ≤ x4 ∧ x4 < 9223372036854775808) (h5 : x5.length ≤ maxN) (h6 : -9223372036854775808 ≤ x6 ∧ x6 < 9223372036854775808) : laws_FnExactMulShared_g x0 x1 x2 x3 x4 x5 x6 = some true := by
  have q2 := h2
  have q5 := h5
  unfold maxN at q2 q5
  obtain ⟨r, i1, i2, i3⟩ := ms_both x0 x1 x2 x3 x4 x5 x6 h2 h5 h6
  have enM := eqM_self 0 0 [] (by simp [maxN])
  have hnM := heldM_nil 1 (by omega) (by omega)
  have m2 := markM_ok x2 (1) h2 (by omega) (by omega)
  have m5 := markM_ok x5 (1 + x2.length) h5 (by omega) (by omega)
  have g1 : decide (((1 : Int) + x2.length + x5.length : Int) < 0) = false := by simp; omega
  cases z0 : decide (laws_szMatrix_v x2 (1048576) < 0)
  case true => simp only [laws_FnExactMulShared_g, laws_FnExactMulShared_T, Tree.run, z0, decide_false, Bool.false_eq_true, if_false, if_true] <;> simp [Tree.run, z0]
  cases z3 : decide (laws_szMatrix_v x5 (laws_szMatrix_v x2 (1048576)) < 0)
  case true => simp only [laws_FnExactMulShared_g, laws_FnExactMulShared_T, Tree.run, z0, z3, decide_false, Bool.false_eq_true, if_false, if_true] <;> simp [Tree.run, z0, z3]
  cases r with
  | inl u =>
    simp only [laws_FnExactMulShared_g, laws_FnExactMulShared_T, Tree.run, i1, i2, enM, hnM, markM_nil, m2, toM_ok x0 x1 x2 h2, eqM_self x0 x1 x2 h2, m5, toM_ok x3 x4 x5 h5, eqM_self x3 x4 x5 h5, g1, z0, z3, Option.bind_some, Bool.false_eq_true, if_false, if_true, decide_true, Bool.not_true, Bool.not_false, beq_self_eq_true, marks_length]
    first | done | simp [Tree.run]
  | inr d =>
    obtain ⟨a0, b0, d0_⟩ := d
    have hd := i3 _ rfl
    simp only at hd
    have e0 := hd
    have hd0 : d0_.length ≤ maxN := by unfold maxN; omega
    have md0 := markM_ok d0_ (1) hd0 (by omega) (by omega)
    have hl0 := heldM_ok (1) d0_.length hd0 (by omega) (by omega)
    have g20 : decide (((1 : Int) + d0_.length : Int) < 0) = false := by simp; omega
    simp only [laws_FnExactMulShared_g, laws_FnExactMulShared_T, Tree.run, i1, i2, enM, hnM, markM_nil, m2, toM_ok x0 x1 x2 h2, eqM_self x0 x1 x2 h2, m5, toM_ok x3 x4 x5 h5, eqM_self x3 x4 x5 h5, g1, z0, z3, md0, hl0, g20, eqM_self a0 b0 d0_ hd0, Option.bind_some, Bool.false_eq_true, if_false, if_true, decide_true, Bool.not_true, Bool.not_false, beq_self_eq_true, marks_length]
    first | done | simp [Tree.run]
theorem ms_lawL (x0 : Int) (x1 : Int) (x2 : Nat) (x3 : Int) (x4 : Int) (x5 : Nat) (x6 : Int) (h0 : -9223372036854775808 ≤ x0 ∧ x0 < 9223372036854775808) (h1 : -9223372036854775808 ≤ x1 ∧ x1 < 9223372036854775808) (h2 : x2 < 9223372036854775808) (h3 : -9223372036854775808 ≤ x3 ∧ x3 < 9223372036854775808) (h4 : -9223372036854775808 ≤ x4 ∧ x4 < 9223372036854775808) (h5 : x5 < 9223372036854775808) (h6 : -9223372036854775808 ≤ x6 ∧ x6 < 9223372036854775808) (big : maxN < x2 ∨ maxN < x5) : laws_FnExactMulShared_len_g x2 x5 = some true := by
  unfold maxN at big
  by_cases k2 : (1048576 : Int) < (x2 : Int)
  · have e := szM_len1 x2 (1048576) h2 (by omega) (by omega) k2
    simp [laws_FnExactMulShared_len_g, laws_FnExactMulShared_len_T, Tree.run, e]
  have e2 := szM_len0 x2 (1048576) h2 (by omega) (by omega) k2
  have g2 : decide ((1048576 - (x2 : Int)) < 0) = false := by simp; omega
  by_cases k5 : (1048576 - (x2 : Int) : Int) < (x5 : Int)
  · have e := szM_len1 x5 (1048576 - (x2 : Int)) h5 (by omega) (by omega) k5
    simp [laws_FnExactMulShared_len_g, laws_FnExactMulShared_len_T, Tree.run, e2, g2, e]
  have e5 := szM_len0 x5 (1048576 - (x2 : Int)) h5 (by omega) (by omega) k5
  have g5 : decide ((1048576 - (x2 : Int) - (x5 : Int)) < 0) = false := by simp; omega
  omega
end Go.Proofs.Ytooakheodgndaaa.AM
