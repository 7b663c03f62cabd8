/- The law ExpMatrix: both sides, and the law. -/
import Derived.Test.YtjadfgeemfdbmaaEM0
set_option linter.unusedSimpArgs false
set_option linter.unusedVariables false
set_option maxHeartbeats 4000000
namespace Go.Proofs.Ytjadfgeemfdbmaa.AM

section
variable {n : Nat} {A B : List Nat}
theorem half_all {K : Nat} (hA : A.length = n * n) (hf : A.all sfin = true) (hK : 2 ≤ K) (hb : ∀ j, j < n * n → nth A j % 2147483648 ≤ (K + 1) * 8388608) :
    (halfL n A).all sfin = true ∧ ∀ j, j < n * n → nth (halfL n A) j % 2147483648 ≤ K * 8388608 := by
  have one : ∀ i k, i < n → k < n → (fmul .f32 1056964608 (nth A (i * n + k))) % 2147483648 ≤ K * 8388608 ∧ (fmul .f32 1056964608 (nth A (i * n + k))) % 2147483648 < 2139095040 := fun i k hi hk =>
    half_bnd (sfin_mod (all_iff.1 hf _ (by rw [hA]; exact rc_lt hi hk))) (hb _ (rc_lt hi hk)) hK
  refine ⟨rc_all.2 fun i k hi hk => mod_sfin (one i k hi hk).2, fun j hj => ?_⟩
  obtain ⟨q1, q2, q3⟩ := rc_of hj
  rw [← q3]
  unfold halfL
  rw [rc_nth _ q1 q2]
  exact (one _ _ q1 q2).1
/-- The halves: from a state with a list of its own. -/
theorem halves {M : List Nat} (h1 : 1 ≤ n) (hn : n ≤ 12) : ∀ (d j : Nat) (A : List Nat), j + d = 64 → A.length = n * n → A.all sfin = true → (∀ p, p < n * n → nth A p % 2147483648 ≤ (191 + d) * 8388608) →
    (impl_ExpMatrix_l0_g M (.inr ((j : Int), (n : Int), (n : Int), A)) = some (.inl ()) ∧ spec_ExpMatrix_l0_g ((j : Int), (n : Int), (n : Int), A) = some (.inl ())) ∨
    ∃ (h : Nat) (A' : List Nat), impl_ExpMatrix_l0_g M (.inr ((j : Int), (n : Int), (n : Int), A)) = some (.inr (.inr ((h : Int), (n : Int), (n : Int), A'))) ∧ spec_ExpMatrix_l0_g ((j : Int), (n : Int), (n : Int), A) = some (.inr ((h : Int), (n : Int), (n : Int), A')) ∧ A'.length = n * n ∧ A'.all sfin = true ∧ h ≤ 64 := by
  intro d
  induction d with
  | zero =>
    intro j A hj hA hf hb
    have nI := normBI h1 hn hf hA
    have : j = 64 := by omega
    subst this
    have fin : sfin (rn A n n) = true := by
      have := rn_bnd (K := 191) (by omega) (by omega) hb n (Nat.le_refl _)
      have h2 : (191 + 2 * n) * 8388608 ≤ 215 * 8388608 := Nat.mul_le_mul_right _ (by omega)
      exact mod_sfin (by omega)
    have nR : normR A n = .inr (rn A n n) := by unfold normR; rw [fin]; rfl
    rw [nR] at nI
    have k0 : decide (((64 : Nat) : Int) < 64) = false := by decide
    have k1 : decide (((64 : Nat) : Int) = 64) = true := by decide
    refine .inr ⟨64, A, whileM_inr (T := fun s => (impl_ExpMatrix_l0_T M s).run) ?_, whileM_inr (T := fun s => (spec_ExpMatrix_l0_T s).run) ?_, hA, hf, Nat.le_refl _⟩
    · simp only [impl_ExpMatrix_l0_T, Tree.run, nI, k1, Option.bind_some]
      cases fgrt .f32 (rn A n n) 1056964608 <;> simp
    · simp only [spec_ExpMatrix_l0_T, Tree.run, k0, Bool.false_eq_true, if_false]
  | succ d ih =>
    intro j A hj hA hf hb
    have nI := normBI h1 hn hf hA
    have nS := normBS h1 hn hf hA
    have k0 : decide ((j : Int) < 64) = true := decide_eq_true (by omega)
    have k1 : decide ((j : Int) = 64) = false := decide_eq_false (by omega)
    cases hN : normR A n with
    | inl u =>
      rw [hN] at nI nS
      refine .inl ⟨whileM_inr (T := fun s => (impl_ExpMatrix_l0_T M s).run) ?_, whileM_inr (T := fun s => (spec_ExpMatrix_l0_T s).run) ?_⟩
      · simp only [impl_ExpMatrix_l0_T, Tree.run, nI, Option.bind_some]
      · simp only [spec_ExpMatrix_l0_T, Tree.run, k0, nS, Option.bind_some, if_true]
    | inr r =>
    rw [hN] at nI nS
    cases hg : fgrt .f32 r 1056964608 with
    | false =>
      refine .inr ⟨j, A, whileM_inr (T := fun s => (impl_ExpMatrix_l0_T M s).run) ?_, whileM_inr (T := fun s => (spec_ExpMatrix_l0_T s).run) ?_, hA, hf, by omega⟩
      · simp only [impl_ExpMatrix_l0_T, Tree.run, nI, hg, Option.bind_some, Bool.not_false, if_true]
      · simp only [spec_ExpMatrix_l0_T, Tree.run, k0, nS, hg, Option.bind_some, Bool.not_false, if_true]
    | true =>
      obtain ⟨f1, f2⟩ := half_all (K := 191 + d) hA hf (by omega) (fun p hp => by have := hb p hp; rw [show 191 + d + 1 = 191 + (d + 1) by omega]; exact this)
      have lg : decide ((halfL n A).length = A.length) = true := decide_eq_true (by rw [halfL_length, hA])
      have sI : (impl_ExpMatrix_l0_T M (.inr ((j : Int), (n : Int), (n : Int), A))).run = some (.inl (.inr (((j + 1 : Nat) : Int), (n : Int), (n : Int), halfL n A))) := by
        simp only [impl_ExpMatrix_l0_T, Tree.run, nI, hg, k1, halfI hn hA, Option.bind_some, Bool.not_true, Bool.false_eq_true, if_false, w1 (show j ≤ 1000 by omega)]
      have sS : (spec_ExpMatrix_l0_T ((j : Int), (n : Int), (n : Int), A)).run = some (.inl (((j + 1 : Nat) : Int), (n : Int), (n : Int), halfL n A)) := by
        simp only [spec_ExpMatrix_l0_T, Tree.run, k0, nS, hg, halfS hn hA, lg, Option.bind_some, Bool.not_true, Bool.false_eq_true, if_false, if_true, w1 (show j ≤ 1000 by omega)]
      rcases ih (j + 1) (halfL n A) (by omega) (halfL_length _ _) f1 f2 with ⟨g1, g2⟩ | ⟨h, A', g1, g2, g3⟩
      · exact .inl ⟨whileM_inl (T := fun s => (impl_ExpMatrix_l0_T M s).run) sI g1, whileM_inl (T := fun s => (spec_ExpMatrix_l0_T s).run) sS g2⟩
      · exact .inr ⟨h, A', whileM_inl (T := fun s => (impl_ExpMatrix_l0_T M s).run) sI g1, whileM_inl (T := fun s => (spec_ExpMatrix_l0_T s).run) sS g2, g3⟩
/-- From the beginning: the argument's own list. -/
theorem halves0 (h1 : 1 ≤ n) (hn : n ≤ 12) (hA : A.length = n * n) (hf : A.all sfin = true) :
    (impl_ExpMatrix_l0_g A (.inl ((0 : Int), (n : Int), (n : Int))) = some (.inl ()) ∧ spec_ExpMatrix_l0_g ((0 : Int), (n : Int), (n : Int), A) = some (.inl ())) ∨
    (impl_ExpMatrix_l0_g A (.inl ((0 : Int), (n : Int), (n : Int))) = some (.inr (.inl ((0 : Int), (n : Int), (n : Int)))) ∧ spec_ExpMatrix_l0_g ((0 : Int), (n : Int), (n : Int), A) = some (.inr ((0 : Int), (n : Int), (n : Int), A))) ∨
    ∃ (h : Nat) (A' : List Nat), impl_ExpMatrix_l0_g A (.inl ((0 : Int), (n : Int), (n : Int))) = some (.inr (.inr ((h : Int), (n : Int), (n : Int), A'))) ∧ spec_ExpMatrix_l0_g ((0 : Int), (n : Int), (n : Int), A) = some (.inr ((h : Int), (n : Int), (n : Int), A')) ∧ A'.length = n * n ∧ A'.all sfin = true ∧ h ≤ 64 := by
  have nI := normBI h1 hn hf hA
  have nS := normBS h1 hn hf hA
  have k0 : decide ((0 : Int) < 64) = true := by decide
  have k1 : decide ((0 : Int) = 64) = false := by decide
  cases hN : normR A n with
  | inl u =>
    rw [hN] at nI nS
    refine .inl ⟨whileM_inr (T := fun s => (impl_ExpMatrix_l0_T A s).run) ?_, whileM_inr (T := fun s => (spec_ExpMatrix_l0_T s).run) ?_⟩
    · simp only [impl_ExpMatrix_l0_T, Tree.run, nI, Option.bind_some]
    · simp only [spec_ExpMatrix_l0_T, Tree.run, k0, nS, Option.bind_some, if_true]
  | inr r =>
  rw [hN] at nI nS
  cases hg : fgrt .f32 r 1056964608 with
  | false =>
    refine .inr (.inl ⟨whileM_inr (T := fun s => (impl_ExpMatrix_l0_T A s).run) ?_, whileM_inr (T := fun s => (spec_ExpMatrix_l0_T s).run) ?_⟩)
    · simp only [impl_ExpMatrix_l0_T, Tree.run, nI, hg, Option.bind_some, Bool.not_false, if_true]
    · simp only [spec_ExpMatrix_l0_T, Tree.run, k0, nS, hg, Option.bind_some, Bool.not_false, if_true]
  | true =>
    obtain ⟨f1, f2⟩ := half_all (K := 254) hA hf (by omega) (fun p hp => by
      have := sfin_mod (all_iff.1 hf p (by omega))
      omega)
    have lg : decide ((halfL n A).length = A.length) = true := decide_eq_true (by rw [halfL_length, hA])
    have e1 : IntKind.i64.wrap ((0 : Int) + 1) = ((1 : Nat) : Int) := rfl
    have sI : (impl_ExpMatrix_l0_T A (.inl ((0 : Int), (n : Int), (n : Int)))).run = some (.inl (.inr (((1 : Nat) : Int), (n : Int), (n : Int), halfL n A))) := by
      simp only [impl_ExpMatrix_l0_T, Tree.run, nI, hg, k1, halfI hn hA, Option.bind_some, Bool.not_true, Bool.false_eq_true, if_false, e1]
    have sS : (spec_ExpMatrix_l0_T ((0 : Int), (n : Int), (n : Int), A)).run = some (.inl (((1 : Nat) : Int), (n : Int), (n : Int), halfL n A)) := by
      simp only [spec_ExpMatrix_l0_T, Tree.run, k0, nS, hg, halfS hn hA, lg, Option.bind_some, Bool.not_true, Bool.false_eq_true, if_false, if_true, e1]
    rcases halves (M := A) h1 hn 63 1 (halfL n A) (by omega) (halfL_length _ _) f1 (fun p hp => f2 p hp) with ⟨g1, g2⟩ | ⟨h, A', g1, g2, g3⟩
    · exact .inl ⟨whileM_inl (T := fun s => (impl_ExpMatrix_l0_T A s).run) sI g1, whileM_inl (T := fun s => (spec_ExpMatrix_l0_T s).run) sS g2⟩
    · exact .inr (.inr ⟨h, A', whileM_inl (T := fun s => (impl_ExpMatrix_l0_T A s).run) sI g1, whileM_inl (T := fun s => (spec_ExpMatrix_l0_T s).run) sS g2, g3⟩)
theorem mulR_inr {X : Int × Int × List Nat} (h : mulR n A B = .inr X) : X = ((n : Int), (n : Int), mulL n n n A B) ∧ (mulL n n n A B).all sfin = true ∧ A.all sfin = true := by
  unfold mulR at h
  split at h
  · rename_i c
    simp only [Bool.and_eq_true] at c
    cases h
    exact ⟨rfl, c.2, c.1.1⟩
  · cases h
theorem mulR_wild (h : A.all sfin = false) : mulR n A B = .inl () := by
  unfold mulR
  rw [h]; rfl
theorem add_wilds (hA : A.length = n * n) (h : A.all sfin = false) : (addL n A B).all sfin = false := by
  rw [Bool.eq_false_iff] at h ⊢
  intro hc
  apply h
  rw [all_iff]
  intro j hj
  rw [hA] at hj
  obtain ⟨q1, q2, q3⟩ := rc_of hj
  have := rc_all.1 hc _ _ q1 q2
  rw [← q3]
  cases hs : sfin (nth A (j / n * n + j % n)) with
  | true => rfl
  | false => rw [add_wild hs] at this; cases this
/-- The terms, by the reference, once the sum is wild. -/
theorem termsW {z0 z1 z2 z3 z4 : Int} {Z C : List Nat} (h1 : 1 ≤ n) (hn : n ≤ 12) (hC : C.length = n * n) {t : Nat} (ht : t ≤ 32) : ∀ (d k : Nat) (X T : List Nat), k + d = t + 1 → X.length = n * n → T.length = n * n → X.all sfin = false →
    spec_ExpMatrix_l2_g z0 z1 Z t z2 n n z3 z4 C ((k : Int), (n : Int), (n : Int), X, T) = some (.inl ()) ∨ ∃ X', spec_ExpMatrix_l2_g z0 z1 Z t z2 n n z3 z4 C ((k : Int), (n : Int), (n : Int), X, T) = some (.inr X') ∧ X'.length = n * n ∧ X'.all sfin = false := by
  intro d
  induction d with
  | zero =>
    intro k X T hk hX hT hw
    have k0 : decide ((k : Int) ≤ (t : Int)) = false := decide_eq_false (by omega)
    refine .inr ⟨X, whileM_inr (T := fun s => (spec_ExpMatrix_l2_T z0 z1 Z t z2 n n z3 z4 C s).run) ?_, hX, hw⟩
    simp only [spec_ExpMatrix_l2_T, Tree.run, k0, Bool.false_eq_true, if_false]
  | succ d ih =>
    intro k X T hk hX hT hw
    have k0 : decide ((k : Int) ≤ (t : Int)) = true := decide_eq_true (by omega)
    have mS := mulBS (B := C) h1 hn hT hC
    cases hm : mulR n T C with
    | inl u =>
      rw [hm] at mS
      refine .inl (whileM_inr (T := fun s => (spec_ExpMatrix_l2_T z0 z1 Z t z2 n n z3 z4 C s).run) ?_)
      simp only [spec_ExpMatrix_l2_T, Tree.run, k0, mS, Option.bind_some, if_true]
    | inr P =>
      rw [hm] at mS
      obtain ⟨rfl, _, _⟩ := mulR_inr hm
      have hl := mulL_length n n n T C
      generalize mulL n n n T C = Q at mS hl
      have st : (spec_ExpMatrix_l2_T z0 z1 Z t z2 n n z3 z4 C ((k : Int), (n : Int), (n : Int), X, T)).run = some (.inl (((k + 1 : Nat) : Int), (n : Int), (n : Int), addL n X (divL n Q k), divL n Q k)) := by
        simp only [spec_ExpMatrix_l2_T, Tree.run, k0, mS, termS hn hX hl, Option.bind_some, if_true, w1 (show k ≤ 1000 by omega)]
      rcases ih (k + 1) (addL n X (divL n Q k)) (divL n Q k) (by omega) (addL_length _ _ _) (divL_length _ _ _) (add_wilds hX hw) with g | ⟨X', g, g2⟩
      · exact .inl (whileM_inl (T := fun s => (spec_ExpMatrix_l2_T z0 z1 Z t z2 n n z3 z4 C s).run) st g)
      · exact .inr ⟨X', whileM_inl (T := fun s => (spec_ExpMatrix_l2_T z0 z1 Z t z2 n n z3 z4 C s).run) st g, g2⟩
/-- The terms. -/
theorem termsB {h0 : Int} {z0 z1 z2 z3 z4 : Int} {Z C : List Nat} (h1 : 1 ≤ n) (hn : n ≤ 12) (hC : C.length = n * n) {t : Nat} (ht : t ≤ 32) : ∀ (d k : Nat) (X T : List Nat), k + d = t + 1 → X.length = n * n → T.length = n * n → X.all sfin = true →
    (impl_ExpMatrix_l2_1_g t h0 n n C ((n : Int), (n : Int), (n : Int), (n : Int), (k : Int), X, T) = some (.inl ()) ∧
      (spec_ExpMatrix_l2_g z0 z1 Z t z2 n n z3 z4 C ((k : Int), (n : Int), (n : Int), X, T) = some (.inl ()) ∨ ∃ X', spec_ExpMatrix_l2_g z0 z1 Z t z2 n n z3 z4 C ((k : Int), (n : Int), (n : Int), X, T) = some (.inr X') ∧ X'.length = n * n ∧ X'.all sfin = false)) ∨
    ∃ X', impl_ExpMatrix_l2_1_g t h0 n n C ((n : Int), (n : Int), (n : Int), (n : Int), (k : Int), X, T) = some (.inr ((n : Int), (n : Int), X')) ∧ spec_ExpMatrix_l2_g z0 z1 Z t z2 n n z3 z4 C ((k : Int), (n : Int), (n : Int), X, T) = some (.inr X') ∧ X'.length = n * n ∧ X'.all sfin = true := by
  have hb := le144 hn hn
  intro d
  induction d with
  | zero =>
    intro k X T hk hX hT hf
    have k0 : decide ((k : Int) ≤ (t : Int)) = false := decide_eq_false (by omega)
    refine .inr ⟨X, whileM_inr (T := fun s => (impl_ExpMatrix_l2_1_T t h0 n n C s).run) ?_, whileM_inr (T := fun s => (spec_ExpMatrix_l2_T z0 z1 Z t z2 n n z3 z4 C s).run) ?_, hX, hf⟩
    · simp only [impl_ExpMatrix_l2_1_T, Tree.run, k0, Bool.false_eq_true, if_false]
    · simp only [spec_ExpMatrix_l2_T, Tree.run, k0, Bool.false_eq_true, if_false]
  | succ d ih =>
    intro k X T hk hX hT hf
    have k0 : decide ((k : Int) ≤ (t : Int)) = true := decide_eq_true (by omega)
    have mI := mulBI (B := C) h1 hn hT hC
    have mS := mulBS (B := C) h1 hn hT hC
    cases hm : mulR n T C with
    | inl u =>
      rw [hm] at mI mS
      refine .inl ⟨whileM_inr (T := fun s => (impl_ExpMatrix_l2_1_T t h0 n n C s).run) ?_, .inl (whileM_inr (T := fun s => (spec_ExpMatrix_l2_T z0 z1 Z t z2 n n z3 z4 C s).run) ?_)⟩
      · simp only [impl_ExpMatrix_l2_1_T, Tree.run, k0, mI, Option.bind_some, if_true]
      · simp only [spec_ExpMatrix_l2_T, Tree.run, k0, mS, Option.bind_some, if_true]
    | inr P =>
      rw [hm] at mI mS
      obtain ⟨rfl, _, _⟩ := mulR_inr hm
      have hl := mulL_length n n n T C
      generalize mulL n n n T C = Q at mI mS hl
      have st : (spec_ExpMatrix_l2_T z0 z1 Z t z2 n n z3 z4 C ((k : Int), (n : Int), (n : Int), X, T)).run = some (.inl (((k + 1 : Nat) : Int), (n : Int), (n : Int), addL n X (divL n Q k), divL n Q k)) := by
        simp only [spec_ExpMatrix_l2_T, Tree.run, k0, mS, termS hn hX hl, Option.bind_some, if_true, w1 (show k ≤ 1000 by omega)]
      have dI := divI (k0 := (k : Int)) hn hl
      have aI := addI (A := X) (B := divL n Q k) hn hX (divL_length _ _ _)
      have vI := vmI n n (addL n X (divL n Q k)) (by rw [addL_length]; unfold maxN; omega)
      rw [vm_nat h1 hn h1 hn (addL_length _ _ _)] at vI
      cases hx : (addL n X (divL n Q k)).all sfin with
      | false =>
        rw [hx] at vI
        refine .inl ⟨whileM_inr (T := fun s => (impl_ExpMatrix_l2_1_T t h0 n n C s).run) ?_, ?_⟩
        · simp only [impl_ExpMatrix_l2_1_T, Tree.run, k0, mI, dI, aI, vI, Option.bind_some, Bool.not_false, if_true]
        · rcases termsW (z0 := z0) (z1 := z1) (z2 := z2) (z3 := z3) (z4 := z4) (Z := Z) h1 hn hC ht d (k + 1) (addL n X (divL n Q k)) (divL n Q k) (by omega) (addL_length _ _ _) (divL_length _ _ _) hx with g | ⟨X', g, g2⟩
          · exact .inl (whileM_inl (T := fun s => (spec_ExpMatrix_l2_T z0 z1 Z t z2 n n z3 z4 C s).run) st g)
          · exact .inr ⟨X', whileM_inl (T := fun s => (spec_ExpMatrix_l2_T z0 z1 Z t z2 n n z3 z4 C s).run) st g, g2⟩
      | true =>
        rw [hx] at vI
        have sI : (impl_ExpMatrix_l2_1_T t h0 n n C ((n : Int), (n : Int), (n : Int), (n : Int), (k : Int), X, T)).run = some (.inl ((n : Int), (n : Int), (n : Int), (n : Int), ((k + 1 : Nat) : Int), addL n X (divL n Q k), divL n Q k)) := by
          simp only [impl_ExpMatrix_l2_1_T, Tree.run, k0, mI, dI, aI, vI, Option.bind_some, Bool.not_true, Bool.false_eq_true, if_false, if_true, w1 (show k ≤ 1000 by omega)]
        rcases ih (k + 1) (addL n X (divL n Q k)) (divL n Q k) (by omega) (addL_length _ _ _) (divL_length _ _ _) hx with ⟨g1, g | ⟨X', g, g2⟩⟩ | ⟨X', g1, g2, g3⟩
        · exact .inl ⟨whileM_inl (T := fun s => (impl_ExpMatrix_l2_1_T t h0 n n C s).run) sI g1, .inl (whileM_inl (T := fun s => (spec_ExpMatrix_l2_T z0 z1 Z t z2 n n z3 z4 C s).run) st g)⟩
        · exact .inl ⟨whileM_inl (T := fun s => (impl_ExpMatrix_l2_1_T t h0 n n C s).run) sI g1, .inr ⟨X', whileM_inl (T := fun s => (spec_ExpMatrix_l2_T z0 z1 Z t z2 n n z3 z4 C s).run) st g, g2⟩⟩
        · exact .inr ⟨X', whileM_inl (T := fun s => (impl_ExpMatrix_l2_1_T t h0 n n C s).run) sI g1, whileM_inl (T := fun s => (spec_ExpMatrix_l2_T z0 z1 Z t z2 n n z3 z4 C s).run) st g2, g3⟩
/-- The squares. -/
theorem squaresB (h1 : 1 ≤ n) (hn : n ≤ 12) {h : Nat} (hh : h ≤ 64) : ∀ (d i : Nat) (X : List Nat), i + d = h → X.length = n * n → X.all sfin = true →
    (impl_ExpMatrix_l4_g h ((i : Int), (n : Int), (n : Int), X) = some (.inl ()) ∧ spec_ExpMatrix_l6_g ((d : Int), (n : Int), (n : Int), X) = some (.inl ())) ∨
    ∃ X', impl_ExpMatrix_l4_g h ((i : Int), (n : Int), (n : Int), X) = some (.inr ((n : Int), (n : Int), X')) ∧ spec_ExpMatrix_l6_g ((d : Int), (n : Int), (n : Int), X) = some (.inr ((n : Int), (n : Int), X')) ∧ X'.length = n * n ∧ X'.all sfin = true := by
  intro d
  induction d with
  | zero =>
    intro i X hi hX hf
    have k0 : decide ((i : Int) < (h : Int)) = false := decide_eq_false (by omega)
    have k1 : decide ((0 : Int) < ((0 : Nat) : Int)) = false := by decide
    refine .inr ⟨X, whileM_inr (T := fun s => (impl_ExpMatrix_l4_T h s).run) ?_, whileM_inr (T := fun s => (spec_ExpMatrix_l6_T s).run) ?_, hX, hf⟩
    · simp only [impl_ExpMatrix_l4_T, Tree.run, k0, Bool.false_eq_true, if_false]
    · simp only [spec_ExpMatrix_l6_T, Tree.run, k1, Bool.false_eq_true, if_false]
  | succ d ih =>
    intro i X hi hX hf
    have k0 : decide ((i : Int) < (h : Int)) = true := decide_eq_true (by omega)
    have k1 : decide ((0 : Int) < ((d + 1 : Nat) : Int)) = true := decide_eq_true (by omega)
    have e1 : IntKind.i64.wrap (((d + 1 : Nat) : Int) - 1) = (d : Int) := by rw [w64 (by omega) (by omega)]; omega
    have mI := mulBI (B := X) h1 hn hX hX
    have mS := mulBS (B := X) h1 hn hX hX
    cases hm : mulR n X X with
    | inl u =>
      rw [hm] at mI mS
      refine .inl ⟨whileM_inr (T := fun s => (impl_ExpMatrix_l4_T h s).run) ?_, whileM_inr (T := fun s => (spec_ExpMatrix_l6_T s).run) ?_⟩
      · simp only [impl_ExpMatrix_l4_T, Tree.run, k0, mI, Option.bind_some, if_true]
      · simp only [spec_ExpMatrix_l6_T, Tree.run, k1, mS, Option.bind_some, if_true]
    | inr P =>
      rw [hm] at mI mS
      obtain ⟨rfl, hq, _⟩ := mulR_inr hm
      have hl := mulL_length n n n X X
      generalize mulL n n n X X = Q at mI mS hl hq
      have sI : (impl_ExpMatrix_l4_T h ((i : Int), (n : Int), (n : Int), X)).run = some (.inl (((i + 1 : Nat) : Int), (n : Int), (n : Int), Q)) := by
        simp only [impl_ExpMatrix_l4_T, Tree.run, k0, mI, Option.bind_some, if_true, w1 (show i ≤ 1000 by omega)]
      have sS : (spec_ExpMatrix_l6_T (((d + 1 : Nat) : Int), (n : Int), (n : Int), X)).run = some (.inl ((d : Int), (n : Int), (n : Int), Q)) := by
        simp only [spec_ExpMatrix_l6_T, Tree.run, k1, mS, Option.bind_some, if_true, e1]
      rcases ih (i + 1) Q (by omega) hl hq with ⟨g1, g2⟩ | ⟨X', g1, g2, g3⟩
      · exact .inl ⟨whileM_inl (T := fun s => (impl_ExpMatrix_l4_T h s).run) sI g1, whileM_inl (T := fun s => (spec_ExpMatrix_l6_T s).run) sS g2⟩
      · exact .inr ⟨X', whileM_inl (T := fun s => (impl_ExpMatrix_l4_T h s).run) sI g1, whileM_inl (T := fun s => (spec_ExpMatrix_l6_T s).run) sS g2, g3⟩
theorem squaresW (h1 : 1 ≤ n) (hn : n ≤ 12) {X : List Nat} (hX : X.length = n * n) (hw : X.all sfin = false) (d : Nat) :
    spec_ExpMatrix_l6_g ((d : Int), (n : Int), (n : Int), X) = some (.inl ()) ∨ spec_ExpMatrix_l6_g ((d : Int), (n : Int), (n : Int), X) = some (.inr ((n : Int), (n : Int), X)) := by
  cases d with
  | zero =>
    have k1 : decide ((0 : Int) < ((0 : Nat) : Int)) = false := by decide
    refine .inr (whileM_inr (T := fun s => (spec_ExpMatrix_l6_T s).run) ?_)
    simp only [spec_ExpMatrix_l6_T, Tree.run, k1, Bool.false_eq_true, if_false]
  | succ d =>
    have k1 : decide ((0 : Int) < ((d + 1 : Nat) : Int)) = true := decide_eq_true (by omega)
    have mS := mulBS (B := X) h1 hn hX hX
    rw [mulR_wild hw] at mS
    refine .inl (whileM_inr (T := fun s => (spec_ExpMatrix_l6_T s).run) ?_)
    simp only [spec_ExpMatrix_l6_T, Tree.run, k1, mS, Option.bind_some, if_true]
theorem unit_fin (n : Nat) : (unitL n).all sfin = true := by
  unfold unitL
  rw [rc_all]
  intro i k _ _
  have o : sfin 1065353216 = true := by kernel_rfl
  have z : sfin 0 = true := by kernel_rfl
  split
  · exact o
  · exact z
/-- What follows the halves: terms and squares. -/
theorem restB {h0 t h : Nat} {z0 z1 : Int} {Z C : List Nat} (h1 : 1 ≤ n) (hn : n ≤ 12) (hC : C.length = n * n) (ht1 : 1 ≤ t) (ht : t ≤ 32) (hh : h ≤ 64) :
    (∃ X, impl_ExpMatrix_l2_1_g t h n n C ((n : Int), (n : Int), (n : Int), (n : Int), (1 : Int), unitL n, unitL n) = some (.inr ((n : Int), (n : Int), X)) ∧ spec_ExpMatrix_l2_g z0 z1 Z t h n n n n C ((1 : Int), (n : Int), (n : Int), unitL n, unitL n) = some (.inr X) ∧ X.length = n * n ∧
      ((impl_ExpMatrix_l4_g h ((0 : Int), (n : Int), (n : Int), X) = some (.inl ()) ∧ spec_ExpMatrix_l6_g ((h : Int), (n : Int), (n : Int), X) = some (.inl ())) ∨
        ∃ Y, impl_ExpMatrix_l4_g h ((0 : Int), (n : Int), (n : Int), X) = some (.inr ((n : Int), (n : Int), Y)) ∧ spec_ExpMatrix_l6_g ((h : Int), (n : Int), (n : Int), X) = some (.inr ((n : Int), (n : Int), Y)) ∧ Y.length = n * n ∧ Y.all sfin = true)) ∨
    (impl_ExpMatrix_l2_1_g t h n n C ((n : Int), (n : Int), (n : Int), (n : Int), (1 : Int), unitL n, unitL n) = some (.inl ()) ∧
      (spec_ExpMatrix_l2_g z0 z1 Z t h n n n n C ((1 : Int), (n : Int), (n : Int), unitL n, unitL n) = some (.inl ()) ∨ ∃ X, spec_ExpMatrix_l2_g z0 z1 Z t h n n n n C ((1 : Int), (n : Int), (n : Int), unitL n, unitL n) = some (.inr X) ∧
        (spec_ExpMatrix_l6_g ((h : Int), (n : Int), (n : Int), X) = some (.inl ()) ∨ (spec_ExpMatrix_l6_g ((h : Int), (n : Int), (n : Int), X) = some (.inr ((n : Int), (n : Int), X)) ∧ X.length = n * n ∧ X.all sfin = false)))) := by
  rcases termsB (h0 := (h : Int)) (z0 := z0) (z1 := z1) (z2 := (h : Int)) (z3 := (n : Int)) (z4 := (n : Int)) (Z := Z) h1 hn hC ht t 1 (unitL n) (unitL n) (by omega) (unitL_length n) (unitL_length n) (unit_fin n) with ⟨g1, g | ⟨X', g, g2, g3⟩⟩ | ⟨X', g1, g2, g3, g4⟩
  · exact .inr ⟨g1, .inl g⟩
  · refine .inr ⟨g1, .inr ⟨X', g, ?_⟩⟩
    rcases squaresW h1 hn g2 g3 h with q | q
    · exact .inl q
    · exact .inr ⟨q, g2, g3⟩
  · exact .inl ⟨X', g1, g2, g3, squaresB h1 hn hh h 0 X' (by omega) g3 g4⟩
theorem sameLoop (A : List Nat) (t h : Int) (s : Int × Int × Int × Int × Int × (List Nat) × (List Nat)) : impl_ExpMatrix_l2_g A t h n n s = impl_ExpMatrix_l2_1_g t h n n A s := rfl
end
theorem em_both (x0 x1 : Int) (x2 : List Nat) (x3 : Int) (h2 : x2.length ≤ maxN) (h3 : -9223372036854775808 ≤ x3 ∧ x3 < 9223372036854775808) :
    ∃ r, impl_ExpMatrix_g x0 x1 x2 x3 = some r ∧ spec_ExpMatrix_g x0 x1 x2 x3 = some r ∧ ∀ d, r = .inr d → d.2.2.length ≤ 1024 := by
  have vI := vmI x0 x1 x2 h2
  have vS := vmS x0 x1 x2 h2
  have fail : ∀ (r : Unit ⊕ (Int × Int × List Nat)), r = .inl () → ∀ d, r = .inr d → d.2.2.length ≤ 1024 := fun r h d h' => by rw [h] at h'; cases h'
  have sq : ∃ b, impl_isSquare_g x0 x1 x2 = some b ∧ spec_l02Square_g x0 x1 x2 = some b ∧ (b = true → vm x0 x1 x2 = true ∧ x0 = x1) := by
    cases hv : vm x0 x1 x2 with
    | false =>
      rw [hv] at vI vS
      exact ⟨false, by simp only [impl_isSquare_g, impl_isSquare_T, Tree.run, vI, Option.bind_some, Bool.false_eq_true, if_false], by simp only [spec_l02Square_g, spec_l02Square_T, Tree.run, vS, Option.bind_some, Bool.false_eq_true, if_false], fun h => by cases h⟩
    | true =>
      rw [hv] at vI vS
      refine ⟨decide (x0 = x1), by simp only [impl_isSquare_g, impl_isSquare_T, Tree.run, vI, Option.bind_some, if_true], by simp only [spec_l02Square_g, spec_l02Square_T, Tree.run, vS, Option.bind_some, if_true], fun h => ⟨rfl, of_decide_eq_true h⟩⟩
  obtain ⟨b, s1, s2, s3⟩ := sq
  cases b with
  | false => exact ⟨.inl (), by simp only [impl_ExpMatrix_g, impl_ExpMatrix_T, Tree.run, s1, Option.bind_some, Bool.not_false, if_true], by simp only [spec_ExpMatrix_g, spec_ExpMatrix_T, Tree.run, s2, Option.bind_some, Bool.not_false, if_true], fail _ rfl⟩
  | true =>
  obtain ⟨hv, rfl⟩ := s3 rfl
  have rI : impl_inRange_v x3 1 32 = (decide (1 ≤ x3) && decide (x3 ≤ 32)) := by
    unfold impl_inRange_v
    by_cases a : (1 : Int) ≤ x3 <;> by_cases b : x3 ≤ (32 : Int) <;> simp [a, b]
  have rS : spec_l00In_v x3 1 32 = (decide (1 ≤ x3) && decide (x3 ≤ 32)) := by
    unfold spec_l00In_v
    by_cases a : (1 : Int) ≤ x3 <;> by_cases b : x3 ≤ (32 : Int) <;> simp [a, b]
  cases hr : (decide (1 ≤ x3) && decide (x3 ≤ 32)) with
  | false =>
    rw [hr] at rI rS
    exact ⟨.inl (), by simp only [impl_ExpMatrix_g, impl_ExpMatrix_T, Tree.run, s1, rI, Option.bind_some, Bool.not_true, Bool.not_false, Bool.false_eq_true, if_false, if_true], by simp only [spec_ExpMatrix_g, spec_ExpMatrix_T, Tree.run, s2, rS, Option.bind_some, Bool.not_true, Bool.not_false, Bool.false_eq_true, if_false, if_true], fail _ rfl⟩
  | true =>
  rw [hr] at rI rS
  simp only [Bool.and_eq_true, decide_eq_true_eq] at hr
  obtain ⟨n, m, ea, eb, n1, n2, m1, m2, hl, hf⟩ := vm_shape hv
  have : n = m := by omega
  subst this
  subst ea
  obtain ⟨t, rfl⟩ : ∃ t : Nat, x3 = t := ⟨x3.toNat, by omega⟩
  have hb := le144 n2 n2
  have ow : spec_l02Own_g n n x2 = some ((n : Int), (n : Int)) := by
    have : fits (([] : List Nat) ++ x2).length = true := fits_iff.2 (by rw [List.nil_append]; exact h2)
    simp only [spec_l02Own_g, spec_l02Own_T, Tree.run, this, if_true]
  have uI := unitI n2
  have uS := unitS n2
  rcases halves0 n1 n2 hl hf with ⟨g1, g2⟩ | ⟨g1, g2⟩ | ⟨h, A', g1, g2, hl', hf', hh⟩
  · exact ⟨.inl (), by simp only [impl_ExpMatrix_g, impl_ExpMatrix_T, Tree.run, s1, rI, g1, Option.bind_some, Bool.not_true, Bool.false_eq_true, if_false, if_true], by simp only [spec_ExpMatrix_g, spec_ExpMatrix_T, Tree.run, s2, rS, ow, List.nil_append, g2, Option.bind_some, Bool.not_true, Bool.false_eq_true, if_false, if_true], fail _ rfl⟩
  · have g1 : impl_ExpMatrix_l0_g x2 (.inl ((0 : Int), (n : Int), (n : Int))) = some (.inr (.inl (((0 : Nat) : Int), (n : Int), (n : Int)))) := g1
    have g2 : spec_ExpMatrix_l0_g ((0 : Int), (n : Int), (n : Int), x2) = some (.inr (((0 : Nat) : Int), (n : Int), (n : Int), x2)) := g2
    rcases restB (h0 := 0) (t := t) (h := 0) (z0 := (n : Int)) (z1 := (n : Int)) (Z := x2) (C := x2) n1 n2 hl (by omega) (by omega) (by omega) with ⟨X, k1, k2, k3, ⟨q1, q2⟩ | ⟨Y, q1, q2, q3, q4⟩⟩ | ⟨k1, k2 | ⟨X, k2, q | ⟨q, q2, q3⟩⟩⟩
    · rw [← sameLoop] at k1
      exact ⟨.inl (), by simp only [impl_ExpMatrix_g, impl_ExpMatrix_T, Tree.run, s1, rI, g1, uI, k1, q1, Option.bind_some, Bool.not_true, Bool.false_eq_true, if_false, if_true], by simp only [spec_ExpMatrix_g, spec_ExpMatrix_T, Tree.run, s2, rS, ow, List.nil_append, g2, uS, k2, q2, Option.bind_some, Bool.not_true, Bool.false_eq_true, if_false, if_true], fail _ rfl⟩
    · rw [← sameLoop] at k1
      have gv := giveR n1 n2 n1 n2 q3
      rw [q4] at gv
      simp only [if_true] at gv
      exact ⟨.inr ((n : Int), (n : Int), Y), by simp only [impl_ExpMatrix_g, impl_ExpMatrix_T, Tree.run, s1, rI, g1, uI, k1, q1, Option.bind_some, Bool.not_true, Bool.false_eq_true, if_false, if_true], by simp only [spec_ExpMatrix_g, spec_ExpMatrix_T, Tree.run, s2, rS, ow, List.nil_append, g2, uS, k2, q2, gv, Option.bind_some, Bool.not_true, Bool.false_eq_true, if_false, if_true], fun d hd => by cases hd; simp only; omega⟩
    · rw [← sameLoop] at k1
      exact ⟨.inl (), by simp only [impl_ExpMatrix_g, impl_ExpMatrix_T, Tree.run, s1, rI, g1, uI, k1, Option.bind_some, Bool.not_true, Bool.false_eq_true, if_false, if_true], by simp only [spec_ExpMatrix_g, spec_ExpMatrix_T, Tree.run, s2, rS, ow, List.nil_append, g2, uS, k2, Option.bind_some, Bool.not_true, Bool.false_eq_true, if_false, if_true], fail _ rfl⟩
    · rw [← sameLoop] at k1
      exact ⟨.inl (), by simp only [impl_ExpMatrix_g, impl_ExpMatrix_T, Tree.run, s1, rI, g1, uI, k1, Option.bind_some, Bool.not_true, Bool.false_eq_true, if_false, if_true], by simp only [spec_ExpMatrix_g, spec_ExpMatrix_T, Tree.run, s2, rS, ow, List.nil_append, g2, uS, k2, q, Option.bind_some, Bool.not_true, Bool.false_eq_true, if_false, if_true], fail _ rfl⟩
    · rw [← sameLoop] at k1
      have gv := giveR n1 n2 n1 n2 q2
      rw [q3] at gv
      simp only [Bool.false_eq_true, if_false] at gv
      exact ⟨.inl (), by simp only [impl_ExpMatrix_g, impl_ExpMatrix_T, Tree.run, s1, rI, g1, uI, k1, Option.bind_some, Bool.not_true, Bool.false_eq_true, if_false, if_true], by simp only [spec_ExpMatrix_g, spec_ExpMatrix_T, Tree.run, s2, rS, ow, List.nil_append, g2, uS, k2, q, gv, Option.bind_some, Bool.not_true, Bool.false_eq_true, if_false, if_true], fail _ rfl⟩
  · rcases restB (h0 := 0) (t := t) (h := h) (z0 := (n : Int)) (z1 := (n : Int)) (Z := x2) (C := A') n1 n2 hl' (by omega) (by omega) hh with ⟨X, k1, k2, k3, ⟨q1, q2⟩ | ⟨Y, q1, q2, q3, q4⟩⟩ | ⟨k1, k2 | ⟨X, k2, q | ⟨q, q2, q3⟩⟩⟩
    · exact ⟨.inl (), by simp only [impl_ExpMatrix_g, impl_ExpMatrix_T, Tree.run, s1, rI, g1, uI, k1, q1, Option.bind_some, Bool.not_true, Bool.false_eq_true, if_false, if_true], by simp only [spec_ExpMatrix_g, spec_ExpMatrix_T, Tree.run, s2, rS, ow, List.nil_append, g2, uS, k2, q2, Option.bind_some, Bool.not_true, Bool.false_eq_true, if_false, if_true], fail _ rfl⟩
    · have gv := giveR n1 n2 n1 n2 q3
      rw [q4] at gv
      simp only [if_true] at gv
      exact ⟨.inr ((n : Int), (n : Int), Y), by simp only [impl_ExpMatrix_g, impl_ExpMatrix_T, Tree.run, s1, rI, g1, uI, k1, q1, Option.bind_some, Bool.not_true, Bool.false_eq_true, if_false, if_true], by simp only [spec_ExpMatrix_g, spec_ExpMatrix_T, Tree.run, s2, rS, ow, List.nil_append, g2, uS, k2, q2, gv, Option.bind_some, Bool.not_true, Bool.false_eq_true, if_false, if_true], fun d hd => by cases hd; simp only; omega⟩
    · exact ⟨.inl (), by simp only [impl_ExpMatrix_g, impl_ExpMatrix_T, Tree.run, s1, rI, g1, uI, k1, Option.bind_some, Bool.not_true, Bool.false_eq_true, if_false, if_true], by simp only [spec_ExpMatrix_g, spec_ExpMatrix_T, Tree.run, s2, rS, ow, List.nil_append, g2, uS, k2, Option.bind_some, Bool.not_true, Bool.false_eq_true, if_false, if_true], fail _ rfl⟩
    · exact ⟨.inl (), by simp only [impl_ExpMatrix_g, impl_ExpMatrix_T, Tree.run, s1, rI, g1, uI, k1, Option.bind_some, Bool.not_true, Bool.false_eq_true, if_false, if_true], by simp only [spec_ExpMatrix_g, spec_ExpMatrix_T, Tree.run, s2, rS, ow, List.nil_append, g2, uS, k2, q, Option.bind_some, Bool.not_true, Bool.false_eq_true, if_false, if_true], fail _ rfl⟩
    · have gv := giveR n1 n2 n1 n2 q2
      rw [q3] at gv
      simp only [Bool.false_eq_true, if_false] at gv
      exact ⟨.inl (), by simp only [impl_ExpMatrix_g, impl_ExpMatrix_T, Tree.run, s1, rI, g1, uI, k1, Option.bind_some, Bool.not_true, Bool.false_eq_true, if_false, if_true], by simp only [spec_ExpMatrix_g, spec_ExpMatrix_T, Tree.run, s2, rS, ow, List.nil_append, g2, uS, k2, q, gv, Option.bind_some, Bool.not_true, Bool.false_eq_true, if_false, if_true], fail _ rfl⟩
theorem em_law (x0 : Int) (x1 : Int) (x2 : List Nat) (x3 : Int) (h0 : -9223372036854775808 ≤ x0 ∧ x0 < 9223372036854775808) (h1 : -9223372036854775808 ≤ x1 ∧ x1 < 9223372036854775808) (h2 : x2.length ≤ maxN) (h3 : -9223372036854775808 ≤ x3 ∧ x3 < 9223372036854775808) : laws_FnExactExpMatrix_g x0 x1 x2 x3 = some true := by
  have q2 := h2
  unfold maxN at q2
  obtain ⟨r, i1, i2, i3⟩ := em_both x0 x1 x2 x3 h2 h3
  have enM := eqM_self 0 0 [] (by simp [maxN])
  have hnM := heldM_nil 1 (by omega) (by omega)
  have m0 := markM_ok x2 (1) h2 (by omega) (by omega)
  have g1 : decide (((1 : Int) + x2.length : Int) < 0) = false := by simp; omega
  cases z0 : decide (laws_szMatrix_v x2 (1048576) < 0)
  case true => simp only [laws_FnExactExpMatrix_g, laws_FnExactExpMatrix_T, Tree.run, z0, decide_false, Bool.false_eq_true, if_false, if_true] <;> simp [Tree.run, z0]
  cases r with
  | inl u =>
    simp only [laws_FnExactExpMatrix_g, laws_FnExactExpMatrix_T, Tree.run, i1, i2, enM, hnM, markM_nil, m0, toM_ok x0 x1 x2 h2, eqM_self x0 x1 x2 h2, g1, z0, Option.bind_some, Bool.false_eq_true, if_false, if_true, decide_true, Bool.not_true, Bool.not_false, beq_self_eq_true, marks_length, marksI_length]
    first | done | simp [Tree.run]
  | inr d =>
    obtain ⟨a0, b0, d0_⟩ := d
    have hd := i3 _ rfl
    simp only at hd
    have e0 := hd
    have hd0 : d0_.length ≤ maxN := by unfold maxN; omega
    have md0 := markM_ok d0_ (1) hd0 (by omega) (by omega)
    have hl0 := heldM_ok (1) d0_.length hd0 (by omega) (by omega)
    have g20 : decide (((1 : Int) + d0_.length : Int) < 0) = false := by simp; omega
    simp only [laws_FnExactExpMatrix_g, laws_FnExactExpMatrix_T, Tree.run, i1, i2, enM, hnM, markM_nil, m0, toM_ok x0 x1 x2 h2, eqM_self x0 x1 x2 h2, g1, z0, md0, hl0, g20, eqM_self a0 b0 d0_ hd0, Option.bind_some, Bool.false_eq_true, if_false, if_true, decide_true, Bool.not_true, Bool.not_false, beq_self_eq_true, marks_length, marksI_length]
    first | done | simp [Tree.run]
theorem em_lawL (x0 : Int) (x1 : Int) (x2 : Nat) (x3 : Int) (h0 : -9223372036854775808 ≤ x0 ∧ x0 < 9223372036854775808) (h1 : -9223372036854775808 ≤ x1 ∧ x1 < 9223372036854775808) (h2 : x2 < 9223372036854775808) (h3 : -9223372036854775808 ≤ x3 ∧ x3 < 9223372036854775808) (big : maxN < x2) : laws_FnExactExpMatrix_len_g x2 = some true := by
  have big0 := big
  unfold maxN at big
  have e := szM_len1 x2 (1048576) h2 (by omega) (by omega) (by omega)
  simp [laws_FnExactExpMatrix_len_g, laws_FnExactExpMatrix_len_T, Tree.run, e]
end Go.Proofs.Ytjadfgeemfdbmaa.AM
