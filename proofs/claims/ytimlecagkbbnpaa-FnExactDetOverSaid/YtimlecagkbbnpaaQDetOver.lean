/- The law DetOver: both sides, and the law. -/
import Derived.Test.YtimlecagkbbnpaaOVN
set_option linter.unusedSimpArgs false
set_option linter.unusedVariables false
set_option maxHeartbeats 2000000
set_option maxRecDepth 100000
namespace Go.Proofs.Ytimlecagkbbnpaa.AM

theorem detO_both (x0 x1 : Int) (x2 : List Int) (x3 : Int) (h2 : x2.length ≤ maxN) (h3 : -9223372036854775808 ≤ x3 ∧ x3 < 9223372036854775808) :
    (spec_DetOver_g x0 x1 x2 x3 = some (.inl ()) ∧ impl_DetOver_g x0 x1 x2 x3 = some (.inl ())) ∨ ∃ k : Int, spec_DetOver_g x0 x1 x2 x3 = some (.inr k) ∧ impl_DetOver_g x0 x1 x2 x3 = some (.inr k) := by
  have wS := whS 1000000 x0 x1 x2 h2 (by omega) (by omega)
  have wI := vwI x0 x1 x2 h2
  have pS := primeS x3 h3.1 h3.2
  have pI := primeI x3 h3.1 h3.2
  cases hw : whB 1000000 x0 x1 x2 with
  | false =>
    rw [hw] at wS wI
    exact .inl ⟨by simp only [spec_DetOver_g, spec_DetOver_T, Tree.run, wS, Option.bind_some, Bool.not_false, if_true], by simp only [impl_DetOver_g, impl_DetOver_T, Tree.run, wI, Option.bind_some, Bool.not_false, if_true]⟩
  | true =>
    rw [hw] at wS wI
    obtain ⟨n, c, rfl, rfl, n1, n2, c1, c2, hl, _⟩ := wh_shape hw
    cases hp : (decide (0 ≤ x3) && prB x3.toNat) with
    | false =>
      rw [hp] at pS pI
      refine .inl ⟨?_, by simp only [impl_DetOver_g, impl_DetOver_T, Tree.run, wI, pI, Option.bind_some, Bool.not_true, Bool.not_false, Bool.false_eq_true, if_false, if_true]⟩
      by_cases hq : (n : Int) = (c : Int)
      · simp only [spec_DetOver_g, spec_DetOver_T, Tree.run, wS, pS, Option.bind_some, decide_eq_true hq, Bool.not_true, Bool.not_false, Bool.false_eq_true, if_false, if_true]
      · simp only [spec_DetOver_g, spec_DetOver_T, Tree.run, wS, pS, Option.bind_some, decide_eq_false hq, Bool.not_true, Bool.not_false, Bool.false_eq_true, if_false, if_true]
    | true =>
      rw [hp] at pS pI
      simp only [Bool.and_eq_true, decide_eq_true_eq] at hp
      obtain ⟨p, rfl⟩ : ∃ p : Nat, x3 = p := ⟨x3.toNat, by omega⟩
      rw [Int.toNat_natCast] at hp
      by_cases hq : (n : Int) = (c : Int)
      · obtain ⟨det, pool, ix, pn, k1, k2, _⟩ := overB_i1 hp.2 n2 c1 c2 hl
        refine .inr ⟨det, ?_, ?_⟩
        · simp only [spec_DetOver_g, spec_DetOver_T, Tree.run, wS, pS, k1, Option.bind_some, decide_eq_true hq, Bool.not_true, Bool.false_eq_true, if_false]
        · simp only [impl_DetOver_g, impl_DetOver_T, Tree.run, wI, pI, k2, Option.bind_some, decide_eq_true hq, Bool.not_true, Bool.false_eq_true, if_false]
      · refine .inl ⟨?_, ?_⟩
        · simp only [spec_DetOver_g, spec_DetOver_T, Tree.run, wS, Option.bind_some, decide_eq_false hq, Bool.not_true, Bool.not_false, Bool.false_eq_true, if_false, if_true]
        · simp only [impl_DetOver_g, impl_DetOver_T, Tree.run, wI, pI, Option.bind_some, decide_eq_false hq, Bool.not_true, Bool.not_false, Bool.false_eq_true, if_false, if_true]
theorem detO (x0 x1 : Int) (x2 : List Int) (x3 : Int) (h0 : -9223372036854775808 ≤ x0 ∧ x0 < 9223372036854775808) (h1 : -9223372036854775808 ≤ x1 ∧ x1 < 9223372036854775808) (h2 : x2.length ≤ maxN) (h3 : -9223372036854775808 ≤ x3 ∧ x3 < 9223372036854775808) : laws_FnExactDetOver_g x0 x1 x2 x3 = some true := by
  have t0 := toW_ok x0 x1 x2 h2
  have e0 := eqW_self x0 x1 x2 h2
  cases z0 : decide (laws_szWhole_v x2 (1048576 : Int) < 0)
  case true => simp only [laws_FnExactDetOver_g, laws_FnExactDetOver_T, Tree.run, z0, Bool.false_eq_true, if_false, if_true]
  rcases detO_both x0 x1 x2 x3 h2 h3 with ⟨i1, i2⟩ | ⟨k, i1, i2⟩
  · simp only [laws_FnExactDetOver_g, laws_FnExactDetOver_T, Tree.run, z0, i1, i2, t0, e0, Option.bind_some, Bool.false_eq_true, if_false, if_true, decide_true, Bool.not_true, Bool.not_false, beq_self_eq_true]
    first | done | simp [Tree.run]
  · simp only [laws_FnExactDetOver_g, laws_FnExactDetOver_T, Tree.run, z0, i1, i2, t0, e0, Option.bind_some, Bool.false_eq_true, if_false, if_true, decide_true, Bool.not_true, Bool.not_false, beq_self_eq_true]
    first | done | simp [Tree.run]
theorem detOL (x0 x1 : Int) (x2 : Nat) (x3 : Int) (h0 : -9223372036854775808 ≤ x0 ∧ x0 < 9223372036854775808) (h1 : -9223372036854775808 ≤ x1 ∧ x1 < 9223372036854775808) (h2 : x2 < 9223372036854775808) (h3 : -9223372036854775808 ≤ x3 ∧ x3 < 9223372036854775808) (big : maxN < x2) : laws_FnExactDetOver_len_g x2 = some true := by
  have e := szW_len x2 (1048576) h2 (by omega) (by omega) big
  simp [laws_FnExactDetOver_len_g, laws_FnExactDetOver_len_T, Tree.run, e]
end Go.Proofs.Ytimlecagkbbnpaa.AM
