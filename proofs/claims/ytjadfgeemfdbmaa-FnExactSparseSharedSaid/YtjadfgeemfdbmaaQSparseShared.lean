/- The law SparseShared: both sides, and the law. -/
import Derived.Test.YtjadfgeemfdbmaaSP
set_option linter.unusedSimpArgs false
set_option linter.unusedVariables false
set_option maxHeartbeats 1000000
namespace Go.Proofs.Ytjadfgeemfdbmaa.AM

theorem sh_both (x0 : Int) (x1 x2 : List Int) (x3 x4 : List Nat) (x5 : Int) (h1 : x1.length ≤ maxN) (h2 : x2.length ≤ maxN) (h3 : x3.length ≤ maxN) (h4 : x4.length ≤ maxN) (h5 : -9223372036854775808 ≤ x5 ∧ x5 < 9223372036854775808) :
    ∃ r, impl_SparseShared_g x0 x1 x2 x3 x4 x5 = some r ∧ spec_SparseShared_g x0 x1 x2 x3 x4 x5 = some r ∧ ∀ d, r = .inr d → d.length ≤ 1024 := by
  obtain ⟨b, g1, g2⟩ := spFitI x0 x1 x2 x3 x4 h1 h2 h3 h4
  obtain ⟨c, k1, k2⟩ := spFitS x0 x1 x2 x3 x4 h1 h2 h3 h4
  have e : b = c := by
    rw [Bool.eq_iff_iff, g2, k2]
  subst e
  have eS : spec_l00In_v x5 1 8 = (decide (1 ≤ x5) && decide (x5 ≤ 8)) := by
    unfold spec_l00In_v
    cases decide (1 ≤ x5) <;> simp
  cases hw : (decide (1 ≤ x5) && decide (x5 ≤ 8)) with
  | false =>
    rw [hw] at eS
    have iI : impl_SparseShared_g x0 x1 x2 x3 x4 x5 = some (.inl ()) := by
      simp only [impl_SparseShared_g, impl_SparseShared_T, Tree.run, inR, hw, Bool.not_false, if_true]
    cases b with
    | false => exact ⟨.inl (), iI, by simp only [spec_SparseShared_g, spec_SparseShared_T, Tree.run, k1, Option.bind_some, Bool.not_false, if_true], fun d h => by cases h⟩
    | true => exact ⟨.inl (), iI, by simp only [spec_SparseShared_g, spec_SparseShared_T, Tree.run, k1, eS, Option.bind_some, Bool.not_true, Bool.not_false, Bool.false_eq_true, if_false, if_true], fun d h => by cases h⟩
  | true =>
  rw [hw] at eS
  cases b with
  | false =>
    have tI : impl_SparseTimes_g x0 x1 x2 x3 x4 = some (.inl ()) := by simp only [impl_SparseTimes_g, impl_SparseTimes_T, Tree.run, g1, Option.bind_some, Bool.not_false, if_true]
    exact ⟨.inl (), by simp only [impl_SparseShared_g, impl_SparseShared_T, Tree.run, inR, hw, tI, Option.bind_some, Bool.not_true, Bool.false_eq_true, if_false], by simp only [spec_SparseShared_g, spec_SparseShared_T, Tree.run, k1, Option.bind_some, Bool.not_false, if_true], fun d h => by cases h⟩
  | true =>
    obtain ⟨hs, hv, _⟩ := g2.1 rfl
    have n1 := hs.n1
    have n2 := hs.n2
    have tI := spTimesI (v := x4) hs hv
    have tS := spTimesS (v := x4) hs hv
    have hl := spTimes_length x0.toNat x1 x2 x3 x4
    generalize spTimes x0.toNat x1 x2 x3 x4 = t at tI tS hl
    have aI := allFinI t (by unfold maxN; omega)
    have aS := listS t (by unfold maxN; omega)
    cases ht : t.all sfin with
    | false =>
      rw [ht] at aI aS
      simp only [Bool.false_eq_true, if_false] at aI aS
      have qI : impl_SparseTimes_g x0 x1 x2 x3 x4 = some (.inl ()) := by simp only [impl_SparseTimes_g, impl_SparseTimes_T, Tree.run, g1, tI, aI, Option.bind_some, Bool.not_true, Bool.false_eq_true, if_false]
      exact ⟨.inl (), by simp only [impl_SparseShared_g, impl_SparseShared_T, Tree.run, inR, hw, qI, Option.bind_some, Bool.not_true, Bool.false_eq_true, if_false], by simp only [spec_SparseShared_g, spec_SparseShared_T, Tree.run, k1, eS, tS, aS, Option.bind_some, Bool.not_true, Bool.false_eq_true, if_false], fun d h => by cases h⟩
    | true =>
      rw [ht] at aI aS
      simp only [if_true] at aI aS
      have qI : impl_SparseTimes_g x0 x1 x2 x3 x4 = some (.inr t) := by simp only [impl_SparseTimes_g, impl_SparseTimes_T, Tree.run, g1, tI, aI, Option.bind_some, Bool.not_true, Bool.false_eq_true, if_false]
      exact ⟨.inr t, by simp only [impl_SparseShared_g, impl_SparseShared_T, Tree.run, inR, hw, qI, Option.bind_some, Bool.not_true, Bool.false_eq_true, if_false], by simp only [spec_SparseShared_g, spec_SparseShared_T, Tree.run, k1, eS, tS, aS, Option.bind_some, Bool.not_true, Bool.false_eq_true, if_false], fun d h => by cases h; omega⟩
theorem sh_law (x0 : Int) (x1 : List Int) (x2 : List Int) (x3 : List Nat) (x4 : List Nat) (x5 : Int) (h0 : -9223372036854775808 ≤ x0 ∧ x0 < 9223372036854775808) (h1 : x1.length ≤ maxN) (h2 : x2.length ≤ maxN) (h3 : x3.length ≤ maxN) (h4 : x4.length ≤ maxN) (h5 : -9223372036854775808 ≤ x5 ∧ x5 < 9223372036854775808) : laws_FnExactSparseShared_g x0 x1 x2 x3 x4 x5 = some true := by
  have q1 := h1
  have q2 := h2
  have q3 := h3
  have q4 := h4
  unfold maxN at q1 q2 q3 q4
  obtain ⟨r, i1, i2, i3⟩ := sh_both x0 x1 x2 x3 x4 x5 h1 h2 h3 h4 h5
  have en := eqF_self [] (by simp [maxN])
  have hn := held_nil 1 (by omega) (by omega)
  have m0 := markSp_ok x1 x2 x3 (1) h1 h2 h3 (by omega) (by omega)
  have m4 := mark_ok x4 (1 + x1.length + x2.length + x3.length) h4 (by omega) (by omega)
  have g1 : decide (((1 : Int) + x1.length + x2.length + x3.length + x4.length : Int) < 0) = false := by simp; omega
  by_cases c4 : (1048576 : Int) < x4.length
  · simp [laws_FnExactSparseShared_g, laws_FnExactSparseShared_T, Tree.run, c4]
  cases z0 : decide (laws_szSparse_v x1 x2 x3 (1048576) < 0)
  case true => simp only [laws_FnExactSparseShared_g, laws_FnExactSparseShared_T, Tree.run, c4, z0, decide_false, Bool.false_eq_true, if_false, if_true] <;> simp [Tree.run, z0]
  have d4 : decide ((1048576 : Int) < x4.length) = false := by simpa using c4
  cases r with
  | inl u =>
    simp only [laws_FnExactSparseShared_g, laws_FnExactSparseShared_T, Tree.run, i1, i2, en, hn, mark_nil, m0, toSp_ok x0 x1 x2 x3 h1 h2 h3, eqSp_self x0 x1 x2 x3 h1 h2 h3, m4, toF_ok x4 h4, eqF_self x4 h4, g1, z0, d4, Option.bind_some, Bool.false_eq_true, if_false, if_true, decide_true, Bool.not_true, Bool.not_false, beq_self_eq_true, marks_length, marksI_length]
    first | done | simp [Tree.run]
  | inr d0_ =>
    have hd := i3 _ rfl
    have e0 := hd
    have hd0 : d0_.length ≤ maxN := by unfold maxN; omega
    have md0 := mark_ok d0_ (1) hd0 (by omega) (by omega)
    have hl0 := held_ok (1) d0_.length hd0 (by omega) (by omega)
    have g20 : decide (((1 : Int) + d0_.length : Int) < 0) = false := by simp; omega
    simp only [laws_FnExactSparseShared_g, laws_FnExactSparseShared_T, Tree.run, i1, i2, en, hn, mark_nil, m0, toSp_ok x0 x1 x2 x3 h1 h2 h3, eqSp_self x0 x1 x2 x3 h1 h2 h3, m4, toF_ok x4 h4, eqF_self x4 h4, g1, z0, d4, md0, hl0, g20, eqF_self d0_ hd0, Option.bind_some, Bool.false_eq_true, if_false, if_true, decide_true, Bool.not_true, Bool.not_false, beq_self_eq_true, marks_length, marksI_length]
    first | done | simp [Tree.run]
theorem sh_lawL (x0 : Int) (x1 : Nat) (x2 : Nat) (x3 : Nat) (x4 : Nat) (x5 : Int) (h0 : -9223372036854775808 ≤ x0 ∧ x0 < 9223372036854775808) (h1 : x1 < 9223372036854775808) (h2 : x2 < 9223372036854775808) (h3 : x3 < 9223372036854775808) (h4 : x4 < 9223372036854775808) (h5 : -9223372036854775808 ≤ x5 ∧ x5 < 9223372036854775808) (big : maxN < x1 ∨ maxN < x2 ∨ maxN < x3 ∨ maxN < x4) : laws_FnExactSparseShared_len_g x1 x2 x3 x4 = some true := by
  have big0 := big
  unfold maxN at big
  by_cases c4 : (1048576 : Int) < (x4 : Int)
  · simp [laws_FnExactSparseShared_len_g, laws_FnExactSparseShared_len_T, Tree.run, c4]
  have e : decide (laws_szSparse_len_v x1 x2 x3 (1048576) < 0) = true := szSp_len x1 x2 x3 (1048576) h1 h2 h3 (by omega) (by omega) (by unfold maxN; omega)
  simp [laws_FnExactSparseShared_len_g, laws_FnExactSparseShared_len_T, Tree.run, c4, e]
end Go.Proofs.Ytjadfgeemfdbmaa.AM
