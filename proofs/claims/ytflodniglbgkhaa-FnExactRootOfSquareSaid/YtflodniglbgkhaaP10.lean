/- The root of a square. -/
import Derived.Test.YtflodniglbgkhaaP5
import Derived.Test.YtflodniglbgkhaaD21
set_option linter.unusedSimpArgs false
set_option linter.unusedVariables false
namespace Go.Proofs.Ytflodniglbgkhaa.AM

theorem rtAcc {n i k : Nat} {R : List Nat} (hi : i < n) (hk : k ≤ i) (hn : n ≤ 12) (hR : R.length = n * n) : ∀ (d j s s' : Nat), j + d = k → Like s s' →
    ∃ y y', impl_RootOfSquare_l4_g i k ((i + 1 : Nat) : Int) n n R (s, (j : Int)) = some y ∧ spec_l03Root_l4_g i k n n R (s', (j : Int)) = some y' ∧ Like y y' := by
  intro d
  induction d with
  | zero =>
    intro j s s' hj hl
    have : j = k := by omega
    subst this
    exact ⟨s, s', whileM_inr (T := fun s => (impl_RootOfSquare_l4_T i j ((i + 1 : Nat) : Int) n n R s).run) (by simp [impl_RootOfSquare_l4_T, Tree.run]), whileM_inr (T := fun s => (spec_l03Root_l4_T i j n n R s).run) (by simp [spec_l03Root_l4_T, Tree.run]), hl⟩
  | succ d ih =>
    intro j s s' hj hl
    have hjk : j < k := by omega
    obtain ⟨y, y', g1, g2, g3⟩ := ih (j + 1) (fsub .f32 s (fmul .f32 (nth R (i * n + j)) (nth R (k * n + j)))) (fsub .f32 s' (fmul .f32 (nth R (i * n + j)) (nth R (k * n + j)))) (by omega) (hl.sub _)
    refine ⟨y, y', whileM_inl (T := fun s => (impl_RootOfSquare_l4_T i k ((i + 1 : Nat) : Int) n n R s).run) ?_ g1, whileM_inl (T := fun s => (spec_l03Root_l4_T i k n n R s).run) ?_ g2, g3⟩
    · simp only [impl_RootOfSquare_l4_T, impl_mul_v, Tree.run, lt_nat, hjk, decide_true, if_true, atI hi (show j < n by omega) hn hn hR, atI (show k < n by omega) (show j < n by omega) hn hn hR, Option.bind_some, w1 (show j ≤ 1000 by omega)]
    · simp only [spec_l03Root_l4_T, Tree.run, lt_nat, hjk, decide_true, if_true, atS hi (show j < n by omega) hn hn hR, atS (show k < n by omega) (show j < n by omega) hn hn hR, Option.bind_some, w1 (show j ≤ 1000 by omega)]
theorem rtRow {n i : Nat} {A R : List Nat} (hi : i < n) (hn : n ≤ 12) (hA : A.length = n * n) (hR : R.length = n * n) :
    ∃ o, impl_RootOfSquare_l2_g n n A i ((i + 1 : Nat) : Int) n n ((0 : Int), R) = some o ∧ spec_l03Root_l2_g n n A 0 i n n ((0 : Int), R) = some o ∧ ∀ d, o = .inr d → d.length = n * n := by
  refine for2 (T := fun s => (impl_RootOfSquare_l2_T n n A i ((i + 1 : Nat) : Int) n n s).run) (T' := fun s => (spec_l03Root_l2_T n n A 0 i n n s).run) (n := i + 1) (s := R) (fun _ s => s.length = n * n) (fun o => ∀ d, o = .inr d → d.length = n * n) hR ?_ ?_
  · intro k R hk hR
    have hki : k ≤ i := by omega
    have hkn : k < n := by omega
    have hle : decide ((k : Int) ≤ (i : Int)) = true := decide_eq_true (by omega)
    have hlt : i * n + k < R.length := by rw [hR]; exact rc_lt hi hkn
    have sI := setR hi hkn hn hn hR
    by_cases he : k = i
    · subst he
      have hee : decide ((k : Int) = (k : Int)) = true := decide_eq_true rfl
      obtain ⟨y, y', g1, g2, g3⟩ := rtAcc (R := R) hi (Nat.le_refl k) hn hR k 0 (nth A (k * n + k)) (fadd .f32 (nth A (k * n + k)) 0) (by omega) (like_add0 _)
      have g1 : impl_RootOfSquare_l4_g k k ((k + 1 : Nat) : Int) n n R (nth A (k * n + k), (0 : Int)) = some y := g1
      have g2 : spec_l03Root_l4_g k k n n R (fadd .f32 (nth A (k * n + k)) 0, (0 : Int)) = some y' := g2
      have hord := ord_like g3
      cases hg : fgrt .f32 y 0 with
      | false =>
        rw [hg] at hord
        refine .inr ⟨.inl (), ?_, ?_, fun d h => by cases h⟩
        · simp only [impl_RootOfSquare_l2_T, Tree.run, lt_nat, hk, decide_true, if_true, atI hi hkn hn hn hA, g1, Nat.lt_irrefl, decide_false, Bool.false_eq_true, if_false, hg, Option.bind_some]
        · simp only [spec_l03Root_l2_T, Tree.run, hle, if_true, atS hi hkn hn hn hA, hee, g2, lt_nat, Nat.lt_irrefl, decide_true, decide_false, Bool.false_eq_true, if_false, ← hord, Option.bind_some]
      | true =>
        rw [hg] at hord
        obtain ⟨z, hz⟩ := sqrt_conv y
        have rI := rootI y z hz
        rw [wid_like g3 hg] at hz
        have rS := rootS y' z hz
        refine .inl ⟨R.set (k * n + k) z, ?_, ?_, by simp [hR]⟩
        · simp only [impl_RootOfSquare_l2_T, Tree.run, lt_nat, hk, decide_true, if_true, atI hi hkn hn hn hA, g1, Nat.lt_irrefl, decide_false, Bool.false_eq_true, if_false, hg, rI, sI, Option.bind_some, atw hi hkn hn hn, Int.toNat_natCast, List.length_set, w1 (show k ≤ 1000 by omega)]
        · simp only [spec_l03Root_l2_T, Tree.run, hle, if_true, atS hi hkn hn hn hA, hee, g2, lt_nat, Nat.lt_irrefl, decide_true, decide_false, Bool.false_eq_true, if_false, ← hord, rS, inb_nat, hlt, decide_true, Option.bind_some, atw hi hkn hn hn, Int.toNat_natCast, w1 (show k ≤ 1000 by omega)]
    · have hkl : k < i := by omega
      have hee : decide ((i : Int) = (k : Int)) = false := decide_eq_false (by omega)
      obtain ⟨y, y', g1, g2, g3⟩ := rtAcc (R := R) hi hki hn hR k 0 (nth A (i * n + k)) (nth A (i * n + k)) (by omega) (Like.refl _)
      have g1 : impl_RootOfSquare_l4_g i k ((i + 1 : Nat) : Int) n n R (nth A (i * n + k), (0 : Int)) = some y := g1
      have g2 : spec_l03Root_l4_g i k n n R (nth A (i * n + k), (0 : Int)) = some y := g1
      refine .inl ⟨R.set (i * n + k) (fdiv .f32 y (nth R (k * n + k))), ?_, ?_, by simp [hR]⟩
      · simp only [impl_RootOfSquare_l2_T, Tree.run, lt_nat, hk, decide_true, if_true, atI hi hkn hn hn hA, g1, hkl, atI hkn hkn hn hn hR, sI, Option.bind_some, atw hi hkn hn hn, Int.toNat_natCast, List.length_set, w1 (show k ≤ 1000 by omega)]
      · simp only [spec_l03Root_l2_T, Tree.run, hle, if_true, atS hi hkn hn hn hA, hee, Bool.false_eq_true, if_false, g2, lt_nat, hkl, decide_true, atS hkn hkn hn hn hR, inb_nat, hlt, Option.bind_some, atw hi hkn hn hn, Int.toNat_natCast, w1 (show k ≤ 1000 by omega)]
  · intro R hR
    have hle : decide (((i + 1 : Nat) : Int) ≤ (i : Int)) = false := decide_eq_false (by omega)
    exact ⟨.inr R, by simp [impl_RootOfSquare_l2_T, Tree.run], by simp only [spec_l03Root_l2_T, Tree.run, hle, Bool.false_eq_true, if_false], fun d h => by cases h; exact hR⟩
theorem rtAll {n : Nat} {A R : List Nat} (hn : n ≤ 12) (hA : A.length = n * n) (hR : R.length = n * n) :
    ∃ o, impl_RootOfSquare_l0_g n n A n n ((0 : Int), R) = some o ∧ spec_l03Root_l0_g n n A 0 n n ((0 : Int), R) = some o ∧ ∀ d, o = .inr d → d.length = n * n := by
  refine for2 (T := fun s => (impl_RootOfSquare_l0_T n n A n n s).run) (T' := fun s => (spec_l03Root_l0_T n n A 0 n n s).run) (n := n) (s := R) (fun _ s => s.length = n * n) (fun o => ∀ d, o = .inr d → d.length = n * n) hR ?_ ?_
  · intro i R hi hR
    obtain ⟨o, g1, g2, g3⟩ := rtRow hi hn hA hR
    cases o with
    | inl u =>
      refine .inr ⟨.inl (), ?_, ?_, fun d h => by cases h⟩
      · simp only [impl_RootOfSquare_l0_T, Tree.run, lt_nat, hi, decide_true, if_true, w1 (show i ≤ 1000 by omega), g1, Option.bind_some]
      · simp only [spec_l03Root_l0_T, Tree.run, lt_nat, hi, decide_true, if_true, w1 (show i ≤ 1000 by omega), g2, Option.bind_some]
    | inr d =>
      refine .inl ⟨d, ?_, ?_, g3 d rfl⟩
      · simp only [impl_RootOfSquare_l0_T, Tree.run, lt_nat, hi, decide_true, if_true, w1 (show i ≤ 1000 by omega), g1, Option.bind_some]
      · simp only [spec_l03Root_l0_T, Tree.run, lt_nat, hi, decide_true, if_true, w1 (show i ≤ 1000 by omega), g2, Option.bind_some]
  · intro R hR
    exact ⟨.inr R, by simp [impl_RootOfSquare_l0_T, Tree.run], by simp [spec_l03Root_l0_T, Tree.run], fun d h => by cases h; exact hR⟩
theorem rt_both (r c : Int) (x : List Nat) (hx : x.length ≤ maxN) : ∃ o, impl_RootOfSquare_g r c x = some o ∧ spec_RootOfSquare_g r c x = some o ∧ ∀ d, o = .inr d → d.2.2.length ≤ 144 := by
  have qI := sqI r c x hx
  have qS := sqS r c x hx
  cases hv : (vm r c x && decide (r = c)) with
  | false =>
    rw [hv] at qI qS
    exact ⟨.inl (), by simp [impl_RootOfSquare_g, impl_RootOfSquare_T, Tree.run, qI], by simp [spec_RootOfSquare_g, spec_RootOfSquare_T, Tree.run, qS], fun d h => by cases h⟩
  | true =>
  rw [hv] at qI qS
  simp only [Bool.and_eq_true, decide_eq_true_eq] at hv
  obtain ⟨hv, rfl⟩ := hv
  obtain ⟨n, m, rfl, e, a1, a2, a3, a4, a5, a6⟩ := vm_shape hv
  have e : n = m := by omega
  subst e
  have hb2 := le144 a2 a2
  obtain ⟨o, g1, g2, g3⟩ := rtAll (R := List.replicate (n * n) 0) a2 a5 (by simp)
  cases o with
  | inl u =>
    refine ⟨.inl (), ?_, ?_, fun d h => by cases h⟩
    · simp only [impl_RootOfSquare_g, impl_RootOfSquare_T, Tree.run, qI, newR a2 a2, mulw a2 a2, Int.toNat_natCast, g1, Option.bind_some, Bool.not_true, Bool.false_eq_true, if_false, if_true]
    · simp only [spec_RootOfSquare_g, spec_RootOfSquare_T, spec_l03Root_g, spec_l03Root_T, Tree.run, qS, zeroS a2 a2, mulw a2 a2, Int.toNat_natCast, g2, Option.bind_some, Bool.not_true, Bool.false_eq_true, if_false, if_true]
  | inr d =>
    have hl := g3 d rfl
    have kI := validR a1 a2 a1 a2 hl
    have kS := giveR a1 a2 a1 a2 hl
    refine ⟨if d.all sfin = true then .inr ((n : Int), (n : Int), d) else .inl (), ?_, ?_, ?_⟩
    · simp only [impl_RootOfSquare_g, impl_RootOfSquare_T, Tree.run, qI, newR a2 a2, mulw a2 a2, Int.toNat_natCast, g1, kI, Option.bind_some, Bool.not_true, Bool.false_eq_true, if_false, if_true]
      split <;> simp [Tree.run]
    · simp only [spec_RootOfSquare_g, spec_RootOfSquare_T, spec_l03Root_g, spec_l03Root_T, Tree.run, qS, zeroS a2 a2, mulw a2 a2, Int.toNat_natCast, g2, kS, Option.bind_some, Bool.not_true, Bool.false_eq_true, if_false, if_true]
      split <;> simp [Tree.run]
    · intro d' h'
      split at h'
      · cases h'; simp only; omega
      · cases h'
theorem rt_law (x0 : Int) (x1 : Int) (x2 : List Nat) (h0 : -9223372036854775808 ≤ x0 ∧ x0 < 9223372036854775808) (h1 : -9223372036854775808 ≤ x1 ∧ x1 < 9223372036854775808) (h2 : x2.length ≤ maxN) : laws_FnExactRootOfSquare_g x0 x1 x2 = some true := by
  have q2 := h2
  unfold maxN at q2
  obtain ⟨r, i1, i2, i3⟩ := rt_both x0 x1 x2 h2
  have enM := eqM_self 0 0 [] (by simp [maxN])
  have hnM := heldM_nil 1 (by omega) (by omega)
  have m2 := markM_ok x2 (1) h2 (by omega) (by omega)
  have g1 : decide (((1 : Int) + x2.length : Int) < 0) = false := by simp; omega
  cases z0 : decide (laws_szMatrix_v x2 (1048576) < 0)
  case true => simp only [laws_FnExactRootOfSquare_g, laws_FnExactRootOfSquare_T, Tree.run, z0, decide_false, Bool.false_eq_true, if_false, if_true] <;> simp [Tree.run, z0]
  cases r with
  | inl u =>
    simp only [laws_FnExactRootOfSquare_g, laws_FnExactRootOfSquare_T, Tree.run, i1, i2, enM, hnM, markM_nil, m2, toM_ok x0 x1 x2 h2, eqM_self x0 x1 x2 h2, g1, z0, Option.bind_some, Bool.false_eq_true, if_false, if_true, decide_true, Bool.not_true, Bool.not_false, beq_self_eq_true, marks_length]
    first | done | simp [Tree.run]
  | inr d =>
    obtain ⟨a0, b0, d0_⟩ := d
    have hd := i3 _ rfl
    simp only at hd
    have e0 := hd
    have hd0 : d0_.length ≤ maxN := by unfold maxN; omega
    have md0 := markM_ok d0_ (1) hd0 (by omega) (by omega)
    have hl0 := heldM_ok (1) d0_.length hd0 (by omega) (by omega)
    have g20 : decide (((1 : Int) + d0_.length : Int) < 0) = false := by simp; omega
    simp only [laws_FnExactRootOfSquare_g, laws_FnExactRootOfSquare_T, Tree.run, i1, i2, enM, hnM, markM_nil, m2, toM_ok x0 x1 x2 h2, eqM_self x0 x1 x2 h2, g1, z0, md0, hl0, g20, eqM_self a0 b0 d0_ hd0, Option.bind_some, Bool.false_eq_true, if_false, if_true, decide_true, Bool.not_true, Bool.not_false, beq_self_eq_true, marks_length]
    first | done | simp [Tree.run]
theorem rt_lawL (x0 : Int) (x1 : Int) (x2 : Nat) (h0 : -9223372036854775808 ≤ x0 ∧ x0 < 9223372036854775808) (h1 : -9223372036854775808 ≤ x1 ∧ x1 < 9223372036854775808) (h2 : x2 < 9223372036854775808) (big : maxN < x2) : laws_FnExactRootOfSquare_len_g x2 = some true := by
  unfold maxN at big
  by_cases k2 : (1048576 : Int) < (x2 : Int)
  · have e := szM_len1 x2 (1048576) h2 (by omega) (by omega) k2
    simp [laws_FnExactRootOfSquare_len_g, laws_FnExactRootOfSquare_len_T, Tree.run, e]
  have e2 := szM_len0 x2 (1048576) h2 (by omega) (by omega) k2
  have g2 : decide ((1048576 - (x2 : Int)) < 0) = false := by simp; omega
  omega
end Go.Proofs.Ytflodniglbgkhaa.AM
