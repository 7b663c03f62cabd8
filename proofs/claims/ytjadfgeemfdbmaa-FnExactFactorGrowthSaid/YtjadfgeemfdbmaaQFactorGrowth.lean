/- The law FactorGrowth: both sides, and the law. -/
import Derived.Test.YtjadfgeemfdbmaaFA0
import Derived.Test.YtjadfgeemfdbmaaD24
set_option linter.unusedSimpArgs false
set_option linter.unusedVariables false
set_option maxHeartbeats 2000000
namespace Go.Proofs.Ytjadfgeemfdbmaa.AM

theorem wj_inl {σ ρ : Type} {T : σ → Option (σ ⊕ ρ)} {s s' : σ} {r : Option ρ} (h : T s = some (.inl s')) (h' : whileM T s' = r) : whileM T s = r := by rw [whileM_eq, h]; exact h'
theorem wj_inr {σ ρ : Type} {T : σ → Option (σ ⊕ ρ)} {s : σ} {r : ρ} (h : T s = some (.inr r)) : whileM T s = some r := by rw [whileM_eq, h]
theorem size_v (x : Nat) : spec_l02Size_v x = size32 x := by
  unfold spec_l02Size_v size32
  rfl
theorem grt_dec {a b c d : Nat} (h1 : FloatKind.f32.decode a = FloatKind.f32.decode b) (h2 : FloatKind.f32.decode c = FloatKind.f32.decode d) : fgrt .f32 a c = fgrt .f32 b d := by
  have o : ∀ x y, fgrt .f32 x y = ((FloatKind.f32.decode x).order (FloatKind.f32.decode y) == some .gt) := fun _ _ => rfl
  rw [o, o, h1, h2]
theorem div_dec {a b c d : Nat} (h1 : FloatKind.f32.decode a = FloatKind.f32.decode b) (h2 : FloatKind.f32.decode c = FloatKind.f32.decode d) : fdiv .f32 a c = fdiv .f32 b d := by
  have o : ∀ x y, fdiv .f32 x y = fres .f32 (((FloatKind.f32.decode x).quotient (FloatKind.f32.format.fractionBits + 2) (FloatKind.f32.decode y)).map FloatKind.f32.format.write) := fun _ _ => rfl
  rw [o, o, h1, h2]
theorem mostLoop {M : List Nat} (hM : ∀ j, j < M.length → sfin (nth M j) = true) (hl : M.length ≤ 144) : ∀ (d i sI sS : Nat), i + d = M.length → sI < 2139095040 → FloatKind.f32.decode sS = FloatKind.f32.decode sI →
    ∃ rI rS, impl_Matrix_greatest_l0_g M (sI, (i : Int)) = some rI ∧ spec_l03Most_l0_g M (sS, (i : Int)) = some rS ∧ rI < 2139095040 ∧ FloatKind.f32.decode rS = FloatKind.f32.decode rI := by
  intro d
  induction d with
  | zero =>
    intro i sI sS hi hs hd
    have k0 : decide ((i : Int) < ((M.length : Nat) : Int)) = false := decide_eq_false (by omega)
    refine ⟨sI, sS, wj_inr (T := fun s => (impl_Matrix_greatest_l0_T M s).run) ?_, wj_inr (T := fun s => (spec_l03Most_l0_T M s).run) ?_, hs, hd⟩
    · simp only [impl_Matrix_greatest_l0_T, Tree.run, k0, Bool.false_eq_true, if_false]
    · simp only [spec_l03Most_l0_T, Tree.run, k0, Bool.false_eq_true, if_false]
  | succ d ih =>
    intro i sI sS hi hs hd
    have k0 : decide ((i : Int) < ((M.length : Nat) : Int)) = true := decide_eq_true (by omega)
    have k1 : inb (i : Int) M.length = true := inb_iff.2 ⟨by omega, by omega⟩
    have e1 : IntKind.i64.wrap ((i : Int) + 1) = ((i + 1 : Nat) : Int) := w_succ (by omega)
    have fin := hM i (by omega)
    obtain ⟨g1, g2⟩ := abs_any fin
    have hr : nth M i % 2147483648 < 2139095040 := sfin_mod fin
    obtain ⟨r, hrr⟩ : ∃ r, r = nth M i % 2147483648 := ⟨_, rfl⟩
    rw [← hrr] at g1 g2 hr
    have ab : impl_absolute_g (nth M i) = some r := by
      simp only [impl_absolute_g, impl_absolute_T, Tree.run, g1, Option.bind_some]
    have mx := max_pos hs hr
    have tst : fgrt .f32 (spec_l02Size_v (nth M i)) sS = fgrt .f32 r sI := by rw [size_v]; exact grt_dec g2 hd
    cases hg : fgrt .f32 r sI with
    | true =>
      rw [hg] at mx tst
      simp only [if_true] at mx
      obtain ⟨rI, rS, q1, q2, q3⟩ := ih (i + 1) r (spec_l02Size_v (nth M i)) (by omega) hr (by rw [size_v]; exact g2)
      refine ⟨rI, rS, wj_inl (T := fun s => (impl_Matrix_greatest_l0_T M s).run) ?_ q1, wj_inl (T := fun s => (spec_l03Most_l0_T M s).run) ?_ q2, q3⟩
      · simp only [impl_Matrix_greatest_l0_T, Tree.run, k0, k1, Int.toNat_natCast, ab, mx, e1, Option.bind_some, if_true]
      · simp only [spec_l03Most_l0_T, Tree.run, k0, k1, Int.toNat_natCast, tst, e1, if_true]
    | false =>
      rw [hg] at mx tst
      simp only [Bool.false_eq_true, if_false] at mx
      obtain ⟨rI, rS, q1, q2, q3⟩ := ih (i + 1) sI sS (by omega) hs hd
      refine ⟨rI, rS, wj_inl (T := fun s => (impl_Matrix_greatest_l0_T M s).run) ?_ q1, wj_inl (T := fun s => (spec_l03Most_l0_T M s).run) ?_ q2, q3⟩
      · simp only [impl_Matrix_greatest_l0_T, Tree.run, k0, k1, Int.toNat_natCast, ab, mx, e1, Option.bind_some, if_true]
      · simp only [spec_l03Most_l0_T, Tree.run, k0, k1, Int.toNat_natCast, tst, e1, Bool.false_eq_true, if_false, if_true]
theorem mostB (a b : Int) {M : List Nat} (hM : ∀ j, j < M.length → sfin (nth M j) = true) (hl : M.length ≤ 144) : ∃ rI rS, impl_Matrix_greatest_g a b M = some rI ∧ spec_l03Most_g a b M = some rS ∧ rI < 2139095040 ∧ FloatKind.f32.decode rS = FloatKind.f32.decode rI := by
  obtain ⟨rI, rS, q1, q2, q3⟩ := mostLoop hM hl M.length 0 0 0 (by omega) (by omega) rfl
  have q1' : impl_Matrix_greatest_l0_g M ((0 : Nat), (0 : Int)) = some rI := q1
  have q2' : spec_l03Most_l0_g M ((0 : Nat), (0 : Int)) = some rS := q2
  refine ⟨rI, rS, ?_, ?_, q3⟩
  · simp only [impl_Matrix_greatest_g, impl_Matrix_greatest_T, Tree.run, q1', Option.bind_some, if_true]
  · simp only [spec_l03Most_g, spec_l03Most_T, Tree.run, q2', Option.bind_some, if_true]
theorem all_nth {M : List Nat} (h : M.all sfin = true) : ∀ j, j < M.length → sfin (nth M j) = true := fun j hj => by
  rw [nth_of _ _ hj]
  exact List.all_eq_true.1 h _ (List.getElem_mem hj)
theorem fg_both (x0 x1 : Int) (x2 : List Nat) (x3 x4 : Int) (x5 : List Nat) (x6 : List Int) (h2 : x2.length ≤ maxN) (h5 : x5.length ≤ maxN) (h6 : x6.length ≤ maxN) :
    ∃ r, impl_FactorGrowth_g x0 x1 x2 x3 x4 x5 x6 = some r ∧ spec_FactorGrowth_g x0 x1 x2 x3 x4 x5 x6 = some r := by
  have aI := vmI x0 x1 x2 h2
  have aS := vmS x0 x1 x2 h2
  cases ha : vm x0 x1 x2 with
  | false =>
    rw [ha] at aI aS
    exact ⟨.inl (), by simp only [impl_FactorGrowth_g, impl_FactorGrowth_T, Tree.run, aI, Option.bind_some, Bool.not_false, if_true], by simp only [spec_FactorGrowth_g, spec_FactorGrowth_T, Tree.run, aS, Option.bind_some, Bool.not_false, if_true]⟩
  | true =>
  rw [ha] at aI aS
  have vI := facI x3 x4 x5 x6 h5
  have vS := facS x3 x4 x5 x6 h5
  cases hv : facB x3 x4 x5 x6 with
  | false =>
    rw [hv] at vI vS
    exact ⟨.inl (), by simp only [impl_FactorGrowth_g, impl_FactorGrowth_T, Tree.run, aI, vI, Option.bind_some, Bool.not_true, Bool.not_false, Bool.false_eq_true, if_false, if_true], by simp only [spec_FactorGrowth_g, spec_FactorGrowth_T, Tree.run, aS, vS, Option.bind_some, Bool.not_true, Bool.not_false, Bool.false_eq_true, if_false, if_true]⟩
  | true =>
  rw [hv] at vI vS
  obtain ⟨na, ma, ea, eb, na1, na2, ma1, ma2, hla, hfa⟩ := vm_shape ha
  obtain ⟨n, rfl, rfl, n1, n2, hl, hf, _⟩ := fac_shape hv
  have b1 := le144 na2 ma2
  have b2 := le144 n2 n2
  obtain ⟨aIm, aSm, g1, g2, g3, g4⟩ := mostB x0 x1 (all_nth hfa) (by omega)
  have hu : ∀ j, j < (upL n n x5).length → sfin (nth (upL n n x5) j) = true := fun j hj => by
    rw [upL_length] at hj
    obtain ⟨q1, q2, q3⟩ := rc_of hj
    rw [← q3]
    unfold upL
    rw [rc_nth _ q1 q2]
    split
    · kernel_rfl
    · exact all_nth hf _ (by rw [hl]; exact rc_lt q1 q2)
  obtain ⟨uIm, uSm, u1, u2, u3, u4⟩ := mostB n n hu (by rw [upL_length]; omega)
  have z1 := zero_pos g3
  have z2 : fgrt .f32 aSm 0 = fgrt .f32 aIm 0 := grt_dec g4 rfl
  have dv : fdiv .f32 uSm aSm = fdiv .f32 uIm aIm := div_dec u4 g4
  cases hz : fgrt .f32 aIm 0 with
  | false =>
    rw [hz] at z1 z2
    exact ⟨.inl (), by simp only [impl_FactorGrowth_g, impl_FactorGrowth_T, Tree.run, aI, vI, g1, z1, Option.bind_some, Bool.not_true, Bool.not_false, Bool.false_eq_true, if_false, if_true], by simp only [spec_FactorGrowth_g, spec_FactorGrowth_T, Tree.run, aS, vS, g2, z2, Option.bind_some, Bool.not_true, Bool.not_false, Bool.false_eq_true, if_false, if_true]⟩
  | true =>
    rw [hz] at z1 z2
    have fI : impl_finite_v (fdiv .f32 uIm aIm) = if sfin (fdiv .f32 uIm aIm) = true then .inr (fdiv .f32 uIm aIm) else .inl () := by
      unfold impl_finite_v
      rw [finI]
      cases sfin (fdiv .f32 uIm aIm) <;> rfl
    have fS : spec_l02Number_v (fdiv .f32 uIm aIm) = if sfin (fdiv .f32 uIm aIm) = true then .inr (fdiv .f32 uIm aIm) else .inl () := by
      unfold spec_l02Number_v spec_l01Finite_v
      rw [show feq .f32 (fsub .f32 (fdiv .f32 uIm aIm) (fdiv .f32 uIm aIm)) 0 = sfin (fdiv .f32 uIm aIm) from rfl]
      cases sfin (fdiv .f32 uIm aIm) <;> rfl
    refine ⟨if sfin (fdiv .f32 uIm aIm) = true then .inr (fdiv .f32 uIm aIm) else .inl (), ?_, ?_⟩
    · simp only [impl_FactorGrowth_g, impl_FactorGrowth_T, Tree.run, aI, vI, g1, z1, upI n2 n2 hl, u1, fI, Option.bind_some, Bool.not_true, Bool.not_false, Bool.false_eq_true, if_false, if_true]
      cases sfin (fdiv .f32 uIm aIm) <;> simp [Tree.run]
    · simp only [spec_FactorGrowth_g, spec_FactorGrowth_T, Tree.run, aS, vS, g2, z2, upS n2 hl, u2, dv, fS, Option.bind_some, Bool.not_true, Bool.not_false, Bool.false_eq_true, if_false, if_true]
      cases sfin (fdiv .f32 uIm aIm) <;> simp [Tree.run]
theorem fg_law (x0 : Int) (x1 : Int) (x2 : List Nat) (x3 : Int) (x4 : Int) (x5 : List Nat) (x6 : List Int) (h0 : -9223372036854775808 ≤ x0 ∧ x0 < 9223372036854775808) (h1 : -9223372036854775808 ≤ x1 ∧ x1 < 9223372036854775808) (h2 : x2.length ≤ maxN) (h3 : -9223372036854775808 ≤ x3 ∧ x3 < 9223372036854775808) (h4 : -9223372036854775808 ≤ x4 ∧ x4 < 9223372036854775808) (h5 : x5.length ≤ maxN) (h6 : x6.length ≤ maxN) : laws_FnExactFactorGrowth_g x0 x1 x2 x3 x4 x5 x6 = some true := by
  have q2 := h2
  have q5 := h5
  have q6 := h6
  unfold maxN at q2 q5 q6
  obtain ⟨r, i1, i2⟩ := fg_both x0 x1 x2 x3 x4 x5 x6 h2 h5 h6
  cases z0 : decide (laws_szMatrix_v x2 (1048576) < 0)
  case true => simp only [laws_FnExactFactorGrowth_g, laws_FnExactFactorGrowth_T, Tree.run, z0, decide_false, Bool.false_eq_true, if_false, if_true] <;> simp [Tree.run, z0]
  cases z3 : decide (laws_szFactor_v x5 x6 (laws_szMatrix_v x2 (1048576)) < 0)
  case true => simp only [laws_FnExactFactorGrowth_g, laws_FnExactFactorGrowth_T, Tree.run, z0, z3, decide_false, Bool.false_eq_true, if_false, if_true] <;> simp [Tree.run, z0, z3]
  cases r with
  | inl u =>
    simp only [laws_FnExactFactorGrowth_g, laws_FnExactFactorGrowth_T, Tree.run, i1, i2, same_self, toM_ok x0 x1 x2 h2, eqM_self x0 x1 x2 h2, toFa_ok x3 x4 x5 x6 h5 h6, eqFa_self x3 x4 x5 x6 h5 h6, z0, z3, Option.bind_some, Bool.false_eq_true, if_false, if_true, decide_true, Bool.not_true, Bool.not_false, beq_self_eq_true, marks_length, marksI_length]
    first | done | simp [Tree.run]
  | inr f0 =>
    simp only [laws_FnExactFactorGrowth_g, laws_FnExactFactorGrowth_T, Tree.run, i1, i2, same_self, toM_ok x0 x1 x2 h2, eqM_self x0 x1 x2 h2, toFa_ok x3 x4 x5 x6 h5 h6, eqFa_self x3 x4 x5 x6 h5 h6, z0, z3, Option.bind_some, Bool.false_eq_true, if_false, if_true, decide_true, Bool.not_true, Bool.not_false, beq_self_eq_true, marks_length, marksI_length]
    first | done | simp [Tree.run]
theorem fg_lawL (x0 : Int) (x1 : Int) (x2 : Nat) (x3 : Int) (x4 : Int) (x5 : Nat) (x6 : Nat) (h0 : -9223372036854775808 ≤ x0 ∧ x0 < 9223372036854775808) (h1 : -9223372036854775808 ≤ x1 ∧ x1 < 9223372036854775808) (h2 : x2 < 9223372036854775808) (h3 : -9223372036854775808 ≤ x3 ∧ x3 < 9223372036854775808) (h4 : -9223372036854775808 ≤ x4 ∧ x4 < 9223372036854775808) (h5 : x5 < 9223372036854775808) (h6 : x6 < 9223372036854775808) (big : maxN < x2 ∨ maxN < x5 ∨ maxN < x6) : laws_FnExactFactorGrowth_len_g x2 x5 x6 = some true := by
  have big0 := big
  unfold maxN at big
  by_cases k2 : (1048576 : Int) < (x2 : Int)
  · have e := szM_len1 x2 (1048576) h2 (by omega) (by omega) k2
    simp [laws_FnExactFactorGrowth_len_g, laws_FnExactFactorGrowth_len_T, Tree.run, e]
  have e2 := szM_len0 x2 (1048576) h2 (by omega) (by omega) k2
  have g2 : decide ((1048576 - (x2 : Int)) < 0) = false := by simp; omega
  have e : decide (laws_szFactor_len_v x5 x6 (1048576 - (x2 : Int)) < 0) = true := szFa_len x5 x6 (1048576 - (x2 : Int)) h5 h6 (by omega) (by omega) (by unfold maxN; omega)
  simp [laws_FnExactFactorGrowth_len_g, laws_FnExactFactorGrowth_len_T, Tree.run, e2, g2, e]
end Go.Proofs.Ytjadfgeemfdbmaa.AM
