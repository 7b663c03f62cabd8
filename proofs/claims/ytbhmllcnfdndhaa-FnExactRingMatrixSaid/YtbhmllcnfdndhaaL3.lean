/- The square of a ring: both write the same square. -/
import Derived.Test.YtbhmllcnfdndhaaL0
import Derived.Test.YtbhmllcnfdndhaaF0
import Derived.Test.YtbhmllcnfdndhaaD18
set_option linter.unusedSimpArgs false
set_option linter.unusedVariables false
namespace Go.Proofs.Ytbhmllcnfdndhaa.AM

/-- The ring's place for row i and column k. -/
def rgI (n i k : Nat) : Int := Int.tmod ((i : Int) - k + n) n
def rgM (xs : List Nat) : List Nat := sq xs.length fun i k => nth xs (rgI xs.length i k).toNat
theorem rgI_inb {n i k : Nat} (hi : i < n) (hk : k < n) : inb (rgI n i k) n = true := tmod_inb (by omega) (by omega)
theorem rg_wrap {n i k : Nat} (hi : i < n) (hk : k < n) (hn : n ≤ 12) : Int.tmod (IntKind.i64.wrap ((IntKind.i64.wrap ((i : Int) - (k : Int))) + (n : Int))) (n : Int) = rgI n i k := by
  rw [w64 (n := (i : Int) - k) (by omega) (by omega), w64 (by omega) (by omega)]; rfl

theorem ringS_row (xs : List Nat) (hn : xs.length ≤ 12) (i : Nat) (hi : i < xs.length) :
    spec_RingMatrix_l2_g xs (i : Int) ((0 : Int), (rgM xs).take (i * xs.length)) = some ((rgM xs).take ((i + 1) * xs.length)) := by
  refine whileM_fix (T := fun s => (spec_RingMatrix_l2_T xs (i : Int) s).run) (n := xs.length) (fun k => ((k : Int), (rgM xs).take (i * xs.length + k))) ?_ ?_
  · intro k hk
    have h1 : i * xs.length + k < (rgM xs).length := by rw [rgM, sq_length]; exact sq_lt hi hk
    have h2 : decide ((xs.length : Int) = 0) = false := by simp; intro h; rw [h] at hi; cases hi
    have h3 : (rgM xs).take (i * xs.length + k) ++ [nth xs (rgI xs.length i k).toNat] = (rgM xs).take (i * xs.length + (k + 1)) := by
      rw [← Nat.add_assoc, ← take_nth _ _ h1, rgM, sq_nth _ _ hi hk]
    have h4 : fits ((rgM xs).take (i * xs.length + (k + 1))).length = true := by
      refine fits_iff.2 ?_
      have : (rgM xs).length ≤ 144 := by rw [rgM, sq_length]; exact Nat.mul_le_mul hn hn
      unfold maxN; simp; omega
    simp only [spec_RingMatrix_l2_T, Tree.run, lt_nat, hk, decide_true, if_true, rg_wrap hi hk hn, rgI_inb hi hk, h2, Bool.not_false, h3, h4, w_succ (show k < 4611686018427387904 by omega)]
  · simp [spec_RingMatrix_l2_T, Tree.run, Nat.add_mul]
theorem ringS_all (xs : List Nat) (hn : xs.length ≤ 12) : spec_RingMatrix_l0_g xs ((0 : Int), ([] : List Nat)) = some (rgM xs) := by
  refine Eq.trans ?_ (whileM_fix (T := fun s => (spec_RingMatrix_l0_T xs s).run) (n := xs.length) (r := rgM xs) (fun i => ((i : Int), (rgM xs).take (i * xs.length))) ?_ ?_)
  · simp [spec_RingMatrix_l0_g]
  · intro i hi
    simp only [spec_RingMatrix_l0_T, Tree.run, lt_nat, hi, decide_true, if_true, ringS_row xs hn i hi, Option.bind_some, w_succ (show i < 4611686018427387904 by omega)]
  · have : (rgM xs).take (xs.length * xs.length) = rgM xs := List.take_of_length_le (by rw [rgM, sq_length]; exact Nat.le_refl _)
    simp [spec_RingMatrix_l0_T, Tree.run, this]

theorem sq_wrap {n : Nat} (hn : n ≤ 12) : IntKind.i64.wrap ((n : Int) * n) = ((n * n : Nat) : Int) := by
  have h : n * n ≤ 144 := Nat.mul_le_mul hn hn
  have : ((n : Int) * n) = ((n * n : Nat) : Int) := by simp
  rw [this, w64 (by omega) (by omega)]
theorem at_wrap {n i k : Nat} (hi : i < n) (hk : k < n) (hn : n ≤ 12) : IntKind.i64.wrap ((IntKind.i64.wrap ((i : Int) * (n : Int))) + (k : Int)) = ((i * n + k : Nat) : Int) := by
  have h : n * n ≤ 144 := Nat.mul_le_mul hn hn
  have h2 := sq_lt hi hk
  have : ((i : Int) * n) = ((i * n : Nat) : Int) := by simp
  rw [this, w64 (n := ((i * n : Nat) : Int)) (by omega) (by omega), w64 (by omega) (by omega)]; omega

theorem ringI_row (xs : List Nat) (hn : xs.length ≤ 12) (i : Nat) (hi : i < xs.length) :
    impl_made_l2_g xs.length xs xs.length (i : Int) xs.length xs.length ((0 : Int), fill 0 (rgM xs) (i * xs.length)) = some (fill 0 (rgM xs) ((i + 1) * xs.length)) := by
  refine whileM_fix (T := fun s => (impl_made_l2_T xs.length xs xs.length (i : Int) xs.length xs.length s).run) (n := xs.length) (fun k => ((k : Int), fill 0 (rgM xs) (i * xs.length + k))) ?_ ?_
  · intro k hk
    have hs := sq_lt hi hk
    have h1 : i * xs.length + k < (rgM xs).length := by rw [rgM, sq_length]; exact hs
    have h2 : decide ((xs.length : Int) = 0) = false := by simp; intro h; rw [h] at hi; cases hi
    have hc : impl_RingMatrix_1_g (i : Int) (k : Int) xs xs.length = some (nth xs (rgI xs.length i k).toNat) := by
      simp only [impl_RingMatrix_1_g, impl_RingMatrix_1_T, Tree.run, h2, Bool.not_false, if_true, rg_wrap hi hk hn, rgI_inb hi hk]
    have hm : impl_Matrix_set_g xs.length (fill 0 (rgM xs) (i * xs.length + k)) (i : Int) (k : Int) = some () := by
      simp only [impl_Matrix_set_g, impl_Matrix_set_T, Tree.run, at_wrap hi hk hn, fill_length, inb_nat, h1, decide_true, if_true]
    have h3 : (fill 0 (rgM xs) (i * xs.length + k)).set (i * xs.length + k) (nth xs (rgI xs.length i k).toNat) = fill 0 (rgM xs) (i * xs.length + (k + 1)) := by
      rw [← Nat.add_assoc, ← fill_set 0 _ _ h1, rgM, sq_nth _ _ hi hk]
    simp only [impl_made_l2_T, Tree.run, lt_nat, hk, decide_true, if_true, hc, hm, Option.bind_some, at_wrap hi hk hn, Int.toNat_natCast, h3, fill_length, w_succ (show k < 4611686018427387904 by omega)]
  · simp [impl_made_l2_T, Tree.run, Nat.add_mul]
theorem ringI_all (xs : List Nat) (hn : xs.length ≤ 12) : impl_made_g xs.length xs.length xs xs.length = some ((xs.length : Int), (xs.length : Int), rgM xs) := by
  have hl : (rgM xs).length = xs.length * xs.length := by rw [rgM, sq_length]
  have hb : xs.length * xs.length ≤ 144 := Nat.mul_le_mul hn hn
  have h0 : impl_newMatrix_g xs.length xs.length = some ((xs.length : Int), (xs.length : Int)) := by
    have : inb ((xs.length * xs.length : Nat) : Int) (maxN + 1) = true := by rw [inb_nat]; unfold maxN; simp; omega
    simp only [impl_newMatrix_g, impl_newMatrix_T, Tree.run, if_true, sq_wrap hn, this]
  have h1 : impl_made_l0_g xs.length xs.length xs xs.length xs.length xs.length ((0 : Int), List.replicate (xs.length * xs.length) 0) = some (rgM xs) := by
    refine Eq.trans ?_ (whileM_fix (T := fun s => (impl_made_l0_T xs.length xs.length xs xs.length xs.length xs.length s).run) (n := xs.length) (r := rgM xs) (fun i => ((i : Int), fill 0 (rgM xs) (i * xs.length))) ?_ ?_)
    · simp [impl_made_l0_g, fill_zero, hl]
    · intro i hi
      simp only [impl_made_l0_T, Tree.run, lt_nat, hi, decide_true, if_true, ringI_row xs hn i hi, Option.bind_some, w_succ (show i < 4611686018427387904 by omega)]
    · have := fill_full (0 : Nat) (rgM xs)
      rw [hl] at this
      simp [impl_made_l0_T, Tree.run, this]
  simp only [impl_made_g, impl_made_T, Tree.run, h0, Option.bind_some, if_true, sq_wrap hn, Int.toNat_natCast, h1]

theorem ring_sfin (xs : List Nat) (h : xs.all sfin = true) : (rgM xs).all sfin = true := by
  rw [List.all_eq_true] at h ⊢
  intro v hv
  obtain ⟨i, k, hi, hk, rfl⟩ := sq_mem _ _ hv
  have hb := inb_iff.1 (rgI_inb hi hk)
  rw [nth_of _ _ (by omega)]
  exact h _ (List.getElem_mem _)

/-- What both come to. -/
theorem ring_both (xs : List Nat) (hx : xs.length ≤ maxN) : ∃ r, impl_RingMatrix_g xs = some r ∧ spec_RingMatrix_g xs = some r ∧ ∀ m, r = .inr m → m.2.2.length ≤ 144 := by
  by_cases h1 : 1 ≤ xs.length ∧ xs.length ≤ 12 ∧ xs.all sfin = true
  · obtain ⟨a1, a2, a3⟩ := h1
    have c1 : decide ((1 : Int) ≤ (xs.length : Int)) = true := by simp; omega
    have c2 : decide ((xs.length : Int) ≤ 12) = true := by simp; omega
    have hl : (rgM xs).length = xs.length * xs.length := by rw [rgM, sq_length]
    have hb : (rgM xs).length ≤ 144 := by rw [hl]; exact Nat.mul_le_mul a2 a2
    refine ⟨.inr (xs.length, xs.length, rgM xs), ?_, ?_, ?_⟩
    · simp [impl_RingMatrix_g, impl_RingMatrix_T, Tree.run, isListI xs 12 hx, c1, c2, a3, impl_lengthF_v, ringI_all xs a2]
    · have hS : spec_l07Short_g xs = some true := by
        simp [spec_l07Short_g, spec_l07Short_T, Tree.run, c1, c2, finiteS xs hx, a3]
      have hG : spec_l02Give_g xs.length xs.length (rgM xs) = some (.inr ((xs.length : Int), (xs.length : Int))) := by
        have hI : spec_l02Is_g xs.length xs.length (rgM xs) = some true := by
          have := finiteS (rgM xs) (by unfold maxN; omega)
          rw [ring_sfin xs a3] at this
          have hd : decide (((rgM xs).length : Int) = ((xs.length * xs.length : Nat) : Int)) = true := by simp [hl]
          simp only [spec_l02Is_g, spec_l02Is_T, Tree.run, spec_l02Sides_v, spec_l00In_v, c1, c2, if_true, sq_wrap a2, hd, this, Option.bind_some]
        simp only [spec_l02Give_g, spec_l02Give_T, Tree.run, hI, Option.bind_some, Bool.not_true, Bool.false_eq_true, if_false]
      simp only [spec_RingMatrix_g, spec_RingMatrix_T, Tree.run, hS, ringS_all xs a2, spec_l02Blank_v, hG, Option.bind_some, Bool.not_true, Bool.false_eq_true, if_false, if_true]
    · intro m h
      cases h
      exact hb
  · refine ⟨.inl (), ?_, ?_, fun m h => by cases h⟩
    · simp only [impl_RingMatrix_g, impl_RingMatrix_T, Tree.run, isListI xs 12 hx, Option.bind_some]
      split
      · rfl
      · exfalso
        rename_i k1
        simp at k1
        exact h1 ⟨by omega, by omega, by simpa using k1.2⟩
    · have hS : spec_l07Short_g xs = some (decide ((1 : Int) ≤ (xs.length : Int)) && decide ((xs.length : Int) ≤ 12) && xs.all sfin) := by
        cases h2 : decide ((1 : Int) ≤ (xs.length : Int)) <;> cases h3 : decide ((xs.length : Int) ≤ 12) <;> simp only [spec_l07Short_g, spec_l07Short_T, Tree.run, h2, h3, finiteS xs hx, Option.bind_some, if_true, Bool.false_eq_true, if_false, Bool.and_true, Bool.true_and, Bool.and_false, Bool.false_and]
      simp only [spec_RingMatrix_g, spec_RingMatrix_T, Tree.run, hS, Option.bind_some]
      split
      · rfl
      · exfalso
        rename_i k1
        simp at k1
        exact h1 ⟨by omega, by omega, by simpa using k1.2⟩

theorem eqM_self (r c : Int) (xs : List Nat) (h : xs.length ≤ maxN) : laws_eqMatrix_g r c xs r c xs = some true := by
  simp [laws_eqMatrix_g, laws_eqMatrix_T, Tree.run, eqF_self xs h]
theorem markM_ok (xs : List Nat) (k : Int) (h : xs.length ≤ maxN) (h0 : 0 ≤ k) (h1 : k ≤ 1099511627776) : laws_markMatrix_g xs k = some (k + xs.length, marks k xs.length) := by
  simp [laws_markMatrix_g, laws_markMatrix_T, Tree.run, mark_ok xs k h h0 h1]
theorem markM_nil (k : Int) : laws_markMatrix_i1_g k = some k := by
  simp [laws_markMatrix_i1_g, laws_markMatrix_i1_T, Tree.run, mark_nil]
theorem heldM_ok (k : Int) (n : Nat) (h : n ≤ maxN) (h0 : 0 ≤ k) (h1 : k ≤ 1099511627776) : laws_heldMatrix_g (marks k n) k = some (k + n) := by
  have : decide (k + (n : Int) < 0) = false := by simp; omega
  simp [laws_heldMatrix_g, laws_heldMatrix_T, Tree.run, held_ok k n h h0 h1, this]
  omega
theorem heldM_nil (k : Int) (h0 : 0 ≤ k) (h1 : k ≤ 1099511627776) : laws_heldMatrix_g [] k = some k := by
  simp [laws_heldMatrix_g, laws_heldMatrix_T, Tree.run, held_nil k h0 h1]
  omega

theorem ring_law (xs : List Nat) (hx : xs.length ≤ maxN) : laws_FnExactRingMatrix_g xs = some true := by
  have hx' := hx
  unfold maxN at hx'
  obtain ⟨r, i1, i2, i3⟩ := ring_both xs hx
  have en := eqM_self 0 0 [] (by simp [maxN])
  have hn := heldM_nil 1 (by omega) (by omega)
  have mx := mark_ok xs 1 hx (by omega) (by omega)
  have g1 : decide ((1 : Int) + xs.length < 0) = false := by simp; omega
  by_cases c1 : (1048576 : Int) < xs.length
  · simp [laws_FnExactRingMatrix_g, laws_FnExactRingMatrix_T, Tree.run, c1]
  have d1 : decide ((1048576 : Int) < xs.length) = false := by simpa using c1
  cases r with
  | inl u =>
    simp only [laws_FnExactRingMatrix_g, laws_FnExactRingMatrix_T, Tree.run, d1, toF_ok xs hx, i1, i2, eqF_self xs hx, en, hn, mx, markM_nil, marks_length, g1,
      Option.bind_some, Bool.false_eq_true, if_false, if_true, decide_true, Bool.not_true, Bool.not_false, beq_self_eq_true]
    first | done | simp [Tree.run]
  | inr m =>
    obtain ⟨m1, m2, d⟩ := m
    have hd := i3 _ rfl
    simp only at hd
    have hd' : d.length ≤ maxN := by unfold maxN; omega
    have md := markM_ok d 1 hd' (by omega) (by omega)
    have hl := heldM_ok 1 d.length hd' (by omega) (by omega)
    have g2 : decide ((1 : Int) + d.length < 0) = false := by simp; omega
    simp only [laws_FnExactRingMatrix_g, laws_FnExactRingMatrix_T, Tree.run, d1, toF_ok xs hx, i1, i2, eqF_self xs hx, en, hn, mx, marks_length, g1, eqM_self m1 m2 d hd', md, hl, g2,
      Option.bind_some, Bool.false_eq_true, if_false, if_true, decide_true, Bool.not_true, Bool.not_false, beq_self_eq_true]
    first | done | simp [Tree.run]
end Go.Proofs.Ytbhmllcnfdndhaa.AM
