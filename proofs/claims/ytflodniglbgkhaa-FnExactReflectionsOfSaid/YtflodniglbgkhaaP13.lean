/- Reflections. -/
import Derived.Test.YtflodniglbgkhaaP12
set_option linter.unusedSimpArgs false
set_option linter.unusedVariables false
namespace Go.Proofs.Ytflodniglbgkhaa.AM

theorem rfLoop {v : List Nat} {n : Nat} (hv : v.length = n) (hn : n ≤ 12) : ∀ (d m e : Nat) (a rs : List Nat), m + 1 + d = n → 1 ≤ m → a.length = m → rs.length = m →
    (impl_ReflectionsOf_l0_g v (.inr (((m + 1 : Nat) : Int), e, a, rs)) = some (.inl ()) ∧ spec_ReflectionsOf_l0_g v (e, ((m + 1 : Nat) : Int), a, rs) = some (.inl ())) ∨
    ∃ e' a' r', impl_ReflectionsOf_l0_g v (.inr (((m + 1 : Nat) : Int), e, a, rs)) = some (.inr (.inr (e', a', r'))) ∧ spec_ReflectionsOf_l0_g v (e, ((m + 1 : Nat) : Int), a, rs) = some (.inr (e', a', r')) ∧ a'.length ≤ 12 ∧ r'.length ≤ 12 := by
  intro d
  induction d with
  | zero =>
    intro m e a rs hd h1 ha hr
    have hk : ¬ m + 1 < n := by omega
    exact .inr ⟨e, a, rs, whileM_inr (T := fun s => (impl_ReflectionsOf_l0_T v s).run) (by simp only [impl_ReflectionsOf_l0_T, Tree.run, hv, lt_nat, hk, decide_false, Bool.false_eq_true, if_false]),
      whileM_inr (T := fun s => (spec_ReflectionsOf_l0_T v s).run) (by simp only [spec_ReflectionsOf_l0_T, Tree.run, hv, lt_nat, hk, decide_false, Bool.false_eq_true, if_false]), by omega, by omega⟩
  | succ d ih =>
    intro m e a rs hd h1 ha hr
    have hk : m + 1 < n := by omega
    have nI := nextI (e := e) h1 ha hr (show m + 1 < v.length by omega) (by omega)
    have nS := growS (e := e) ha (show m + 1 < v.length by omega) (by omega)
    have hl := nA_length a (rA v a e m) m
    have hl2 : (rs ++ [rA v a e m]).length = m + 1 := by simp [hr]
    generalize nA a (rA v a e m) m = a' at nI nS hl
    generalize nE e (rA v a e m) = e' at nI nS
    generalize rA v a e m = r at nI nS hl2
    have c1 : decide (a.length ≤ a'.length) = true := decide_eq_true (by omega)
    have c2 : decide (rs.length ≤ (rs ++ [r]).length) = true := decide_eq_true (by omega)
    cases hg : fgrt .f32 e' 0 with
    | false =>
      rw [hg] at nI
      refine .inl ⟨whileM_inr (T := fun s => (impl_ReflectionsOf_l0_T v s).run) ?_, whileM_inr (T := fun s => (spec_ReflectionsOf_l0_T v s).run) ?_⟩
      · simp only [impl_ReflectionsOf_l0_T, Tree.run, hv, lt_nat, hk, decide_true, if_true, nI, Option.bind_some, c1, c2, Bool.not_false]
      · simp only [spec_ReflectionsOf_l0_T, Tree.run, hv, lt_nat, hk, decide_true, if_true, nS, Option.bind_some, hg, Bool.not_false]
    | true =>
      rw [hg] at nI
      have s1 : (impl_ReflectionsOf_l0_T v (.inr (((m + 1 : Nat) : Int), e, a, rs))).run = some (.inl (.inr (((m + 1 + 1 : Nat) : Int), e', a', rs ++ [r]))) := by
        simp only [impl_ReflectionsOf_l0_T, Tree.run, hv, lt_nat, hk, decide_true, if_true, nI, Option.bind_some, c1, c2, Bool.not_true, Bool.false_eq_true, if_false, w1 (show m + 1 ≤ 1000 by omega)]
      have s2 : (spec_ReflectionsOf_l0_T v (e, ((m + 1 : Nat) : Int), a, rs)).run = some (.inl (e', ((m + 1 + 1 : Nat) : Int), a', rs ++ [r])) := by
        simp only [spec_ReflectionsOf_l0_T, Tree.run, hv, lt_nat, hk, decide_true, if_true, nS, Option.bind_some, hg, Bool.not_true, Bool.false_eq_true, if_false, w1 (show m + 1 ≤ 1000 by omega)]
        rw [if_pos (fitsN (by omega))]
      rcases ih (m + 1) e' a' (rs ++ [r]) (by omega) (by omega) hl hl2 with ⟨g1, g2⟩ | ⟨e2, a2, r2, g1, g2, g3⟩
      · exact .inl ⟨whileM_inl (T := fun s => (impl_ReflectionsOf_l0_T v s).run) s1 g1, whileM_inl (T := fun s => (spec_ReflectionsOf_l0_T v s).run) s2 g2⟩
      · exact .inr ⟨e2, a2, r2, whileM_inl (T := fun s => (impl_ReflectionsOf_l0_T v s).run) s1 g1, whileM_inl (T := fun s => (spec_ReflectionsOf_l0_T v s).run) s2 g2, g3⟩
theorem rfAll {v : List Nat} {n e : Nat} (hv : v.length = n) (h1 : 1 ≤ n) (hn : n ≤ 12) :
    (impl_ReflectionsOf_l0_g v (.inl ((1 : Int), e)) = some (.inl ()) ∧ spec_ReflectionsOf_l0_g v (e, (1 : Int), ([] : List Nat), ([] : List Nat)) = some (.inl ())) ∨
    (impl_ReflectionsOf_l0_g v (.inl ((1 : Int), e)) = some (.inr (.inl e)) ∧ spec_ReflectionsOf_l0_g v (e, (1 : Int), ([] : List Nat), ([] : List Nat)) = some (.inr (e, [], []))) ∨
    ∃ e' a' r', impl_ReflectionsOf_l0_g v (.inl ((1 : Int), e)) = some (.inr (.inr (e', a', r'))) ∧ spec_ReflectionsOf_l0_g v (e, (1 : Int), ([] : List Nat), ([] : List Nat)) = some (.inr (e', a', r')) ∧ a'.length ≤ 12 ∧ r'.length ≤ 12 := by
  by_cases hk : 1 < n
  case neg =>
    have hk0 : decide ((1 : Int) < (n : Int)) = false := decide_eq_false (by omega)
    exact .inr (.inl ⟨whileM_inr (T := fun s => (impl_ReflectionsOf_l0_T v s).run) (by simp only [impl_ReflectionsOf_l0_T, Tree.run, hv, hk0, Bool.false_eq_true, if_false]),
      whileM_inr (T := fun s => (spec_ReflectionsOf_l0_T v s).run) (by simp only [spec_ReflectionsOf_l0_T, Tree.run, hv, hk0, Bool.false_eq_true, if_false])⟩)
  case pos =>
    have hk1 : decide ((1 : Int) < (n : Int)) = true := decide_eq_true (by omega)
    have nI := nextI1 (e := e) (show 1 < v.length by omega)
    have nS : spec_l07Grow_g v [] e (1 : Int) = some (nE e (rA v [] e 0), rA v [] e 0, [rA v [] e 0]) := growS (v := v) (a := []) (e := e) (m := 0) rfl (by omega) (by omega)
    have hr : fdiv .f32 (fsub .f32 (nth v (Int.toNat (1 : Int))) (0 : Nat)) e = rA v [] e 0 := rfl
    generalize nE e (rA v [] e 0) = e' at nI nS
    generalize rA v [] e 0 = r at nS hr
    have w2 : IntKind.i64.wrap ((1 : Int) + 1) = ((1 + 1 : Nat) : Int) := by rw [w64 (by omega) (by omega)]; rfl
    cases hg : fgrt .f32 e' 0 with
    | false =>
      rw [hg] at nI
      refine .inl ⟨whileM_inr (T := fun s => (impl_ReflectionsOf_l0_T v s).run) ?_, whileM_inr (T := fun s => (spec_ReflectionsOf_l0_T v s).run) ?_⟩
      · simp only [impl_ReflectionsOf_l0_T, Tree.run, hv, hk1, if_true, nI, Option.bind_some, Bool.not_false]
      · simp only [spec_ReflectionsOf_l0_T, Tree.run, hv, hk1, if_true, nS, Option.bind_some, hg, Bool.not_false]
    | true =>
      rw [hg] at nI
      have s1 : (impl_ReflectionsOf_l0_T v (.inl ((1 : Int), e))).run = some (.inl (.inr (((1 + 1 : Nat) : Int), e', [r], [r]))) := by
        simp only [impl_ReflectionsOf_l0_T, Tree.run, hv, hk1, hr, if_true, nI, Option.bind_some, Bool.not_true, Bool.false_eq_true, if_false, w2]
      have s2 : (spec_ReflectionsOf_l0_T v (e, (1 : Int), ([] : List Nat), ([] : List Nat))).run = some (.inl (e', ((1 + 1 : Nat) : Int), [r], [r])) := by
        simp only [spec_ReflectionsOf_l0_T, Tree.run, hv, hk1, if_true, nS, Option.bind_some, hg, Bool.not_true, Bool.false_eq_true, if_false, w2, List.nil_append]
        rw [if_pos (fitsN (by simp))]
      rcases rfLoop hv hn (n - 2) 1 e' [r] [r] (by omega) (by omega) rfl rfl with ⟨g1, g2⟩ | ⟨e2, a2, r2, g1, g2, g3⟩
      · exact .inl ⟨whileM_inl (T := fun s => (impl_ReflectionsOf_l0_T v s).run) s1 g1, whileM_inl (T := fun s => (spec_ReflectionsOf_l0_T v s).run) s2 g2⟩
      · exact .inr (.inr ⟨e2, a2, r2, whileM_inl (T := fun s => (impl_ReflectionsOf_l0_T v s).run) s1 g1, whileM_inl (T := fun s => (spec_ReflectionsOf_l0_T v s).run) s2 g2, g3⟩)
theorem rf_both (v : List Nat) (hv : v.length ≤ maxN) :
    (impl_ReflectionsOf_g v = some (.inl ()) ∧ spec_ReflectionsOf_g v = some (.inl ())) ∨ (∃ e, impl_ReflectionsOf_g v = some (.inr (.inl e)) ∧ spec_ReflectionsOf_g v = some (.inr (e, [], []))) ∨
    ∃ e a r, impl_ReflectionsOf_g v = some (.inr (.inr (e, a, r))) ∧ spec_ReflectionsOf_g v = some (.inr (e, a, r)) ∧ a.length ≤ 12 ∧ r.length ≤ 12 := by
  have lI := isListI v 12 hv
  have sV := shortS v hv
  cases hc : (decide (1 ≤ (v.length : Int)) && decide ((v.length : Int) ≤ 12) && v.all sfin) with
  | false =>
    rw [hc] at lI sV
    exact .inl ⟨by simp [impl_ReflectionsOf_g, impl_ReflectionsOf_T, impl_isShiftList_g, impl_isShiftList_T, Tree.run, lI], by simp [spec_ReflectionsOf_g, spec_ReflectionsOf_T, Tree.run, sV]⟩
  | true =>
  rw [hc] at lI sV
  simp only [Bool.and_eq_true, decide_eq_true_eq] at hc
  obtain ⟨⟨h1, h12⟩, hf⟩ := hc
  have h1 : 1 ≤ v.length := by omega
  have h12 : v.length ≤ 12 := by omega
  have hin : inb (0 : Int) v.length = true := by have := inb_nat 0 v.length; simpa [show 0 < v.length by omega] using this
  have hs : impl_isShiftList_g v = some (fgrt .f32 (nth v (Int.toNat (0 : Int))) 0) := by
    simp only [impl_isShiftList_g, impl_isShiftList_T, Tree.run, lI, Option.bind_some, if_true, hin]
  cases hp : fgrt .f32 (nth v (Int.toNat (0 : Int))) 0 with
  | false =>
    rw [hp] at hs
    refine .inl ⟨?_, ?_⟩
    · simp only [impl_ReflectionsOf_g, impl_ReflectionsOf_T, Tree.run, hs, Option.bind_some, Bool.not_false, if_true]
    · simp only [spec_ReflectionsOf_g, spec_ReflectionsOf_T, Tree.run, sV, hin, hp, Option.bind_some, Bool.not_false, Bool.not_true, Bool.false_eq_true, if_false, if_true]
  | true =>
  rw [hp] at hs
  have nilI : impl_areFinite_g ([] : List Nat) = some true := areFin [] (by simp [maxN])
  have nilS : spec_l02Finite_g ([] : List Nat) = some true := finiteS [] (by simp [maxN])
  rcases rfAll (v := v) (e := nth v (Int.toNat (0 : Int))) rfl h1 h12 with ⟨g1, g2⟩ | ⟨g1, g2⟩ | ⟨e', a', r', g1, g2, b1, b2⟩
  · refine .inl ⟨?_, ?_⟩
    · simp only [impl_ReflectionsOf_g, impl_ReflectionsOf_T, Tree.run, hs, hin, g1, Option.bind_some, Bool.not_true, Bool.false_eq_true, if_false, if_true]
    · simp only [spec_ReflectionsOf_g, spec_ReflectionsOf_T, Tree.run, sV, hin, hp, g2, Option.bind_some, Bool.not_true, Bool.false_eq_true, if_false, if_true]
  · cases hz : sfin (nth v (Int.toNat (0 : Int))) with
    | false =>
      refine .inl ⟨?_, ?_⟩
      · simp only [impl_ReflectionsOf_g, impl_ReflectionsOf_T, Tree.run, hs, hin, g1, nilI, finI, hz, Option.bind_some, Bool.not_true, Bool.not_false, Bool.false_eq_true, if_false, if_true]
      · simp only [spec_ReflectionsOf_g, spec_ReflectionsOf_T, Tree.run, sV, hin, hp, g2, nilS, finS, hz, Option.bind_some, Bool.not_true, Bool.not_false, Bool.false_eq_true, if_false, if_true]
    | true =>
      refine .inr (.inl ⟨nth v (Int.toNat (0 : Int)), ?_, ?_⟩)
      · simp only [impl_ReflectionsOf_g, impl_ReflectionsOf_T, Tree.run, hs, hin, g1, nilI, finI, hz, Option.bind_some, Bool.not_true, Bool.not_false, Bool.false_eq_true, if_false, if_true]
      · simp only [spec_ReflectionsOf_g, spec_ReflectionsOf_T, Tree.run, sV, hin, hp, g2, nilS, finS, hz, Option.bind_some, Bool.not_true, Bool.not_false, Bool.false_eq_true, if_false, if_true]
  · have aI := areFin a' (by unfold maxN; omega)
    have rI := areFin r' (by unfold maxN; omega)
    have aS := finiteS a' (by unfold maxN; omega)
    have rS := finiteS r' (by unfold maxN; omega)
    by_cases hz : (a'.all sfin && r'.all sfin && sfin e') = true
    · simp only [Bool.and_eq_true] at hz
      obtain ⟨⟨z1, z2⟩, z3⟩ := hz
      rw [z1] at aI aS
      rw [z2] at rI rS
      refine .inr (.inr ⟨e', a', r', ?_, ?_, b1, b2⟩)
      · simp only [impl_ReflectionsOf_g, impl_ReflectionsOf_T, Tree.run, hs, hin, g1, aI, rI, finI, z3, Option.bind_some, Bool.not_true, Bool.not_false, Bool.false_eq_true, if_false, if_true]
      · simp only [spec_ReflectionsOf_g, spec_ReflectionsOf_T, Tree.run, sV, hin, hp, g2, aS, rS, finS, z3, Option.bind_some, Bool.not_true, Bool.not_false, Bool.false_eq_true, if_false, if_true]
    · refine .inl ⟨?_, ?_⟩
      · simp only [impl_ReflectionsOf_g, impl_ReflectionsOf_T, Tree.run, hs, hin, g1, aI, rI, finI, Option.bind_some, Bool.not_true, Bool.not_false, Bool.false_eq_true, if_false, if_true]
        cases z1 : a'.all sfin <;> cases z2 : r'.all sfin <;> cases z3 : sfin e' <;> simp_all
      · simp only [spec_ReflectionsOf_g, spec_ReflectionsOf_T, Tree.run, sV, hin, hp, g2, aS, rS, finS, Option.bind_some, Bool.not_true, Bool.not_false, Bool.false_eq_true, if_false, if_true]
        cases z1 : a'.all sfin <;> cases z2 : r'.all sfin <;> cases z3 : sfin e' <;> simp_all
theorem rf_law (x0 : List Nat) (h0 : x0.length ≤ maxN) : laws_FnExactReflectionsOf_g x0 = some true := by
  have q0 := h0
  unfold maxN at q0
  have en := eqF_self [] (by simp [maxN])
  have hn := held_nil 1 (by omega) (by omega)
  have m0 := mark_ok x0 (1) h0 (by omega) (by omega)
  have g1 : decide (((1 : Int) + x0.length : Int) < 0) = false := by simp; omega
  by_cases c0 : (1048576 : Int) < x0.length
  · simp [laws_FnExactReflectionsOf_g, laws_FnExactReflectionsOf_T, Tree.run, c0]
  have d0 : decide ((1048576 : Int) < x0.length) = false := by simpa using c0
  rcases rf_both x0 h0 with ⟨i1, i2⟩ | ⟨e, i1, i2⟩ | ⟨f2, d0_, d1_, i1, i2, e0, e1⟩
  · simp only [laws_FnExactReflectionsOf_g, laws_FnExactReflectionsOf_T, Tree.run, i1, i2, en, hn, mark_nil, same_self, m0, toF_ok x0 h0, eqF_self x0 h0, g1, d0, Option.bind_some, Bool.false_eq_true, if_false, if_true, decide_true, Bool.not_true, Bool.not_false, beq_self_eq_true, marks_length]
    first | done | simp [Tree.run]
  · simp only [laws_FnExactReflectionsOf_g, laws_FnExactReflectionsOf_T, Tree.run, i1, i2, en, hn, mark_nil, same_self, m0, toF_ok x0 h0, eqF_self x0 h0, g1, d0, Option.bind_some, Bool.false_eq_true, if_false, if_true, decide_true, Bool.not_true, Bool.not_false, beq_self_eq_true, marks_length]
    first | done | simp [Tree.run]
  · have hd0 : d0_.length ≤ maxN := by unfold maxN; omega
    have md0 := mark_ok d0_ (1) hd0 (by omega) (by omega)
    have hl0 := held_ok (1) d0_.length hd0 (by omega) (by omega)
    have g20 : decide (((1 : Int) + d0_.length : Int) < 0) = false := by simp; omega
    have hd1 : d1_.length ≤ maxN := by unfold maxN; omega
    have md1 := mark_ok d1_ (1 + d0_.length) hd1 (by omega) (by omega)
    have hl1 := held_ok (1 + d0_.length) d1_.length hd1 (by omega) (by omega)
    have g21 : decide (((1 : Int) + d0_.length + d1_.length : Int) < 0) = false := by simp; omega
    simp only [laws_FnExactReflectionsOf_g, laws_FnExactReflectionsOf_T, Tree.run, i1, i2, en, hn, mark_nil, same_self, m0, toF_ok x0 h0, eqF_self x0 h0, g1, d0, md0, hl0, g20, eqF_self d0_ hd0, md1, hl1, g21, eqF_self d1_ hd1, Option.bind_some, Bool.false_eq_true, if_false, if_true, decide_true, Bool.not_true, Bool.not_false, beq_self_eq_true, marks_length]
    first | done | simp [Tree.run]
theorem rf_lawL (x0 : Nat) (h0 : x0 < 9223372036854775808) (big : maxN < x0) : laws_FnExactReflectionsOf_len_g x0 = some true := by
  unfold maxN at big
  by_cases c0 : (1048576 : Int) < (x0 : Int)
  · simp [laws_FnExactReflectionsOf_len_g, laws_FnExactReflectionsOf_len_T, Tree.run, c0]
  omega
end Go.Proofs.Ytflodniglbgkhaa.AM
