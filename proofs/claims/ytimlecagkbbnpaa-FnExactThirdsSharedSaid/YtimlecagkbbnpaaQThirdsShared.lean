/- The law ThirdsShared: both sides, and the law. -/
import Derived.Test.YtimlecagkbbnpaaTS0
set_option linter.unusedSimpArgs false
set_option linter.unusedVariables false
set_option maxHeartbeats 4000000
namespace Go.Proofs.Ytimlecagkbbnpaa.AM

theorem thsh_law (p0 p1 p2 : List (List Nat)) (v : List Nat) (w : Int) {n : Nat} (hn : n < 9223372036854775808) (l0 : p0.length = n) (h0 : ∀ i, i < n → (nth p0 i).length ≤ maxN ∧ ∀ x ∈ nth p0 i, x < 4294967296) (l1 : p1.length = n) (h1 : ∀ i, i < n → (nth p1 i).length ≤ maxN ∧ ∀ x ∈ nth p1 i, x < 4294967296)
    (l2 : p2.length = n) (h2 : ∀ i, i < n → (nth p2 i).length ≤ maxN ∧ ∀ x ∈ nth p2 i, x < 4294967296) (hv : v.length ≤ maxN) (hw : -9223372036854775808 ≤ w ∧ w < 9223372036854775808) : laws_FnExactThirdsShared_g p0 p1 p2 v w = some true := by
  by_cases c3 : (1048576 : Int) < ((v.length : Nat) : Int)
  · simp only [laws_FnExactThirdsShared_g, laws_FnExactThirdsShared_T, Tree.run, c3, decide_true, if_true]
  obtain ⟨k, hk, hk2⟩ := szThS p0 p1 p2 (by omega)
  by_cases z0 : k < 0
  · simp only [laws_FnExactThirdsShared_g, laws_FnExactThirdsShared_T, Tree.run, c3, decide_false, Bool.false_eq_true, if_false, hk, Option.bind_some, z0, decide_true, if_true]
  have hT : Th n p0 p1 p2 := ⟨by have := hk2 z0; omega, l0, l1, l2, fun j hj => (h0 j hj).1, fun j hj => (h1 j hj).1, fun j hj => (h2 j hj).1⟩
  have t0 := toThS hT
  have e0 := eqThS hT
  obtain ⟨m', q0, q1, q2, m0, m1, m2⟩ := markThS hT
  have hn20 := hT.n20
  have mb := mark_big v m' hv m1 (by omega)
  have g1 : decide (m' + (v.length : Int) < 0) = false := decide_eq_false (by omega)
  obtain ⟨r, i1, i2, i3⟩ := ths_both hT hv w
  rcases i3 with rfl | ⟨K, pool, rfl, hR⟩
  · simp only [laws_FnExactThirdsShared_g, laws_FnExactThirdsShared_T, Tree.run, c3, z0, hk, t0, i1, i2, e0, m0, mb, g1, toF_ok v hv, eqF_self v hv, eqFF0, markFF0, heldFF0, marks_length, Option.bind_some, decide_false, decide_true, Bool.false_eq_true, if_false, if_true, Bool.not_true, Bool.not_false, beq_self_eq_true]
    first | done | simp [Tree.run]
  · have ef := eqFF hR
    have mf := markFF hR
    have hf := heldFF hR
    have hb := ofF_bd hR 1 K (Nat.le_refl _)
    have g2 : decide (ofF pool 1 K < 0) = false := decide_eq_false (by omega)
    simp only [laws_FnExactThirdsShared_g, laws_FnExactThirdsShared_T, Tree.run, c3, z0, hk, t0, i1, i2, e0, m0, mb, g1, toF_ok v hv, eqF_self v hv, ef, mf, hf, g2, marks_length, Option.bind_some, decide_false, decide_true, Bool.false_eq_true, if_false, if_true, Bool.not_true, Bool.not_false, beq_self_eq_true]
    first | done | simp [Tree.run]
theorem thsh_lawL (a b c : List Nat) (m : Nat) (w : Int) {n : Nat} (hn : n < 9223372036854775808) (la : a.length = n) (ha : ∀ i, i < n → nth a i < 9223372036854775808) (lb : b.length = n) (hb : ∀ i, i < n → nth b i < 9223372036854775808)
    (lc : c.length = n) (hc : ∀ i, i < n → nth c i < 9223372036854775808) (hm : m < 9223372036854775808) (hw : -9223372036854775808 ≤ w ∧ w < 9223372036854775808)
    (big : (∃ i, i < n ∧ maxN < nth a i) ∨ ((∃ i, i < n ∧ maxN < nth b i) ∨ ((∃ i, i < n ∧ maxN < nth c i) ∨ maxN < m))) : laws_FnExactThirdsShared_len_g a b c m = some true := by
  by_cases c3 : (1048576 : Int) < ((m : Nat) : Int)
  · simp only [laws_FnExactThirdsShared_len_g, laws_FnExactThirdsShared_len_T, Tree.run, c3, decide_true, if_true]
  · have hbig : ∃ q, q < n ∧ (maxN < nth a q ∨ maxN < nth b q ∨ maxN < nth c q) := by
      rcases big with ⟨i, h1, h2⟩ | ⟨i, h1, h2⟩ | ⟨i, h1, h2⟩ | h
      · exact ⟨i, h1, .inl h2⟩
      · exact ⟨i, h1, .inr (.inl h2)⟩
      · exact ⟨i, h1, .inr (.inr h2)⟩
      · unfold maxN at h; omega
    have hs := szThL a b c la ha hb hc hn hbig
    simp only [laws_FnExactThirdsShared_len_g, laws_FnExactThirdsShared_len_T, Tree.run, c3, decide_false, Bool.false_eq_true, if_false, hs, Option.bind_some]
    rfl
end Go.Proofs.Ytimlecagkbbnpaa.AM
