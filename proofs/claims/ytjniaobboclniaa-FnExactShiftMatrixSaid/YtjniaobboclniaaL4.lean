/- The square of shifts: both write the same square. -/
import Derived.Test.YtjniaobboclniaaM0
set_option linter.unusedSimpArgs false
set_option linter.unusedVariables false
namespace Go.Proofs.Ytjniaobboclniaa.AM

def shI (i k : Nat) : Nat := if i < k then k - i else i - k
def shM (xs : List Nat) : List Nat := sq xs.length fun i k => nth xs (shI i k)
theorem shM_length (xs : List Nat) : (shM xs).length = xs.length * xs.length := by rw [shM, sq_length]
theorem shI_lt {n i k : Nat} (hi : i < n) (hk : k < n) : shI i k < n := by unfold shI; split <;> omega
theorem sh_sfin (xs : List Nat) (h : xs.all sfin = true) : (shM xs).all sfin = true := by
  rw [List.all_eq_true] at h ⊢
  intro v hv
  obtain ⟨i, k, hi, hk, rfl⟩ := sq_mem _ _ hv
  have hb := shI_lt hi hk
  rw [nth_of _ _ hb]
  exact h _ (List.getElem_mem _)
theorem shS_row (xs : List Nat) (hn : xs.length ≤ 12) (i : Nat) (hi : i < xs.length) :
    spec_l07Shift_l2_g xs (i : Int) ((0 : Int), (shM xs).take (i * xs.length)) = some ((shM xs).take ((i + 1) * xs.length)) := by
  refine whileM_fix (T := fun s => (spec_l07Shift_l2_T xs (i : Int) s).run) (n := xs.length) (fun k => ((k : Int), (shM xs).take (i * xs.length + k))) ?_ ?_
  · intro k hk
    have h1 : i * xs.length + k < (shM xs).length := by rw [shM_length]; exact sq_lt hi hk
    have h3 : (shM xs).take (i * xs.length + k) ++ [nth xs (shI i k)] = (shM xs).take (i * xs.length + (k + 1)) := by
      rw [← Nat.add_assoc, ← take_nth _ _ h1]; congr 2; rw [shM, sq_nth _ _ hi hk]
    have h4 : fits ((shM xs).take (i * xs.length + (k + 1))).length = true := by
      refine fits_iff.2 ?_
      have : (shM xs).length ≤ 144 := by rw [shM_length]; exact Nat.mul_le_mul hn hn
      unfold maxN; simp; omega
    have w1 : IntKind.i64.wrap ((i : Int) - (k : Int)) = (i : Int) - k := w64 (by omega) (by omega)
    by_cases hik : i < k
    · have c : decide ((i : Int) - k < 0) = true := by simp; omega
      have w2 : IntKind.i64.wrap (0 - ((i : Int) - (k : Int))) = ((shI i k : Nat) : Int) := by rw [w64 (by omega) (by omega)]; simp only [shI, hik, if_true]; omega
      simp only [spec_l07Shift_l2_T, Tree.run, lt_nat, hk, decide_true, if_true, w1, c, w2, inb_nat, shI_lt hi hk, Int.toNat_natCast, h3, h4, w_succ (show k < 4611686018427387904 by omega)]
    · have c : decide ((i : Int) - k < 0) = false := by simp; omega
      have w2 : (i : Int) - (k : Int) = ((shI i k : Nat) : Int) := by simp only [shI, hik, if_false]; omega
      simp only [spec_l07Shift_l2_T, Tree.run, lt_nat, hk, decide_true, if_true, w1, c, Bool.false_eq_true, if_false]
      simp only [w2, inb_nat, shI_lt hi hk, Int.toNat_natCast, h3, h4, w_succ (show k < 4611686018427387904 by omega), decide_true, if_true]
  · simp [spec_l07Shift_l2_T, Tree.run, Nat.add_mul]
theorem shS_all (xs : List Nat) (hn : xs.length ≤ 12) : spec_l07Shift_g xs = some ((xs.length : Int), (xs.length : Int), shM xs) := by
  have : spec_l07Shift_l0_g xs ((0 : Int), ([] : List Nat)) = some (shM xs) := by
    refine Eq.trans ?_ (whileM_fix (T := fun s => (spec_l07Shift_l0_T xs s).run) (n := xs.length) (r := shM xs) (fun i => ((i : Int), (shM xs).take (i * xs.length))) ?_ ?_)
    · simp [spec_l07Shift_l0_g]
    · intro i hi
      simp only [spec_l07Shift_l0_T, Tree.run, lt_nat, hi, decide_true, if_true, shS_row xs hn i hi, Option.bind_some, w_succ (show i < 4611686018427387904 by omega)]
    · have : (shM xs).take (xs.length * xs.length) = shM xs := List.take_of_length_le (by rw [shM_length]; exact Nat.le_refl _)
      simp [spec_l07Shift_l0_T, Tree.run, this]
  simp only [spec_l07Shift_g, spec_l07Shift_T, Tree.run, this, Option.bind_some, if_true, spec_l02Blank_v]
theorem shI_row (xs : List Nat) (hn : xs.length ≤ 12) (i : Nat) (hi : i < xs.length) :
    impl_made_l2_g xs.length xs (i : Int) xs.length xs.length ((0 : Int), fill 0 (shM xs) (i * xs.length)) = some (fill 0 (shM xs) ((i + 1) * xs.length)) := by
  refine whileM_fix (T := fun s => (impl_made_l2_T xs.length xs (i : Int) xs.length xs.length s).run) (n := xs.length) (fun k => ((k : Int), fill 0 (shM xs) (i * xs.length + k))) ?_ ?_
  · intro k hk
    have hs := sq_lt hi hk
    have h1 : i * xs.length + k < (shM xs).length := by rw [shM_length]; exact hs
    have w1 : imax (IntKind.i64.wrap ((i : Int) - (k : Int))) (IntKind.i64.wrap ((k : Int) - (i : Int))) = ((shI i k : Nat) : Int) := by
      rw [w64 (n := (i : Int) - k) (by omega) (by omega), w64 (n := (k : Int) - i) (by omega) (by omega)]
      unfold imax shI
      split <;> split <;> omega
    have hc : impl_shift_1_g (i : Int) (k : Int) xs = some (nth xs (shI i k)) := by
      simp only [impl_shift_1_g, impl_shift_1_T, Tree.run, w1, inb_nat, shI_lt hi hk, decide_true, if_true, Int.toNat_natCast]
    have hm := setM_ok (s := fill 0 (shM xs) (i * xs.length + k)) hi hk hn (by rw [fill_length, shM_length])
    have h3 : (fill 0 (shM xs) (i * xs.length + k)).set (i * xs.length + k) (nth xs (shI i k)) = fill 0 (shM xs) (i * xs.length + (k + 1)) := by
      rw [← Nat.add_assoc, ← fill_set 0 _ _ h1]; congr 1; rw [shM, sq_nth _ _ hi hk]
    simp only [impl_made_l2_T, Tree.run, lt_nat, hk, decide_true, if_true, hc, hm, Option.bind_some, at_wrap hi hk hn, Int.toNat_natCast, h3, fill_length, w_succ (show k < 4611686018427387904 by omega)]
  · simp [impl_made_l2_T, Tree.run, Nat.add_mul]
theorem shI_all (xs : List Nat) (hn : xs.length ≤ 12) : impl_shift_g xs = some ((xs.length : Int), (xs.length : Int), shM xs) := by
  have hl := shM_length xs
  have h1 : impl_made_l0_g xs.length xs.length xs xs.length xs.length ((0 : Int), List.replicate (xs.length * xs.length) 0) = some (shM xs) := by
    refine Eq.trans ?_ (whileM_fix (T := fun s => (impl_made_l0_T xs.length xs.length xs xs.length xs.length s).run) (n := xs.length) (r := shM xs) (fun i => ((i : Int), fill 0 (shM xs) (i * xs.length))) ?_ ?_)
    · simp [impl_made_l0_g, fill_zero, hl]
    · intro i hi
      simp only [impl_made_l0_T, Tree.run, lt_nat, hi, decide_true, if_true, shI_row xs hn i hi, Option.bind_some, w_succ (show i < 4611686018427387904 by omega)]
    · have := fill_full (0 : Nat) (shM xs)
      rw [hl] at this
      simp [impl_made_l0_T, Tree.run, this]
  have h2 : impl_made_g xs.length xs.length xs = some ((xs.length : Int), (xs.length : Int), shM xs) := by
    simp only [impl_made_g, impl_made_T, Tree.run, newM_ok hn, Option.bind_some, if_true, sq_wrap hn, Int.toNat_natCast, h1]
  simp only [impl_shift_g, impl_shift_T, Tree.run, impl_lengthF_v, h2, Option.bind_some]
theorem shM_both (xs : List Nat) (hx : xs.length ≤ maxN) : ∃ r, impl_ShiftMatrix_g xs = some r ∧ spec_ShiftMatrix_g xs = some r ∧ ∀ m, r = .inr m → m.2.2.length ≤ 144 := by
  by_cases h1 : 1 ≤ xs.length ∧ xs.length ≤ 12 ∧ xs.all sfin = true
  · obtain ⟨a1, a2, a3⟩ := h1
    have c1 : decide ((1 : Int) ≤ (xs.length : Int)) = true := by simp; omega
    have c2 : decide ((xs.length : Int) ≤ 12) = true := by simp; omega
    have hb : (shM xs).length ≤ 144 := by rw [shM_length]; exact Nat.mul_le_mul a2 a2
    refine ⟨.inr (xs.length, xs.length, shM xs), ?_, ?_, ?_⟩
    · simp [impl_ShiftMatrix_g, impl_ShiftMatrix_T, Tree.run, isListI xs 12 hx, c1, c2, a3, shI_all xs a2]
    · have hS := shortS xs hx
      rw [c1, c2, a3] at hS
      simp only [spec_ShiftMatrix_g, spec_ShiftMatrix_T, Tree.run, hS, shS_all xs a2, giveM _ _ a1 a2 (shM_length xs) (sh_sfin xs a3), Option.bind_some, Bool.and_self, Bool.not_true, Bool.false_eq_true, if_false, if_true]
    · intro m h
      cases h
      exact hb
  · refine ⟨.inl (), ?_, ?_, fun m h => by cases h⟩
    · simp only [impl_ShiftMatrix_g, impl_ShiftMatrix_T, Tree.run, isListI xs 12 hx, Option.bind_some]
      split
      · rfl
      · exfalso
        rename_i k1
        simp at k1
        exact h1 ⟨by omega, by omega, by simpa using k1.2⟩
    · simp only [spec_ShiftMatrix_g, spec_ShiftMatrix_T, Tree.run, shortS xs hx, Option.bind_some]
      split
      · rfl
      · exfalso
        rename_i k1
        simp at k1
        exact h1 ⟨by omega, by omega, by simpa using k1.2⟩
theorem shT_both (xs ys : List Nat) (hx : xs.length ≤ maxN) (hy : ys.length ≤ maxN) : ∃ r, impl_ShiftTimes_g xs ys = some r ∧ spec_ShiftTimes_g xs ys = some r ∧ ∀ d, r = .inr d → d.length ≤ 144 := by
  by_cases h1 : 1 ≤ xs.length ∧ xs.length ≤ 12 ∧ ys.length = xs.length ∧ xs.all sfin = true ∧ ys.all sfin = true
  · obtain ⟨a1, a2, a3, a4, a5⟩ := h1
    have c1 : decide ((1 : Int) ≤ (xs.length : Int)) = true := by simp; omega
    have c2 : decide ((xs.length : Int) ≤ 12) = true := by simp; omega
    have hb : xs.length * xs.length ≤ 144 := Nat.mul_le_mul a2 a2
    have hm : xs.length * xs.length ≤ maxN := by unfold maxN; omega
    have hd : (timesL xs.length xs.length (shM xs) ys).length ≤ maxN := by rw [timesL_length]; exact hx
    refine ⟨if (timesL xs.length xs.length (shM xs) ys).all sfin = true then .inr (timesL xs.length xs.length (shM xs) ys) else .inl (), ?_, ?_, ?_⟩
    · simp only [impl_ShiftTimes_g, impl_ShiftTimes_T, Tree.run, isListI xs 12 hx, c1, c2, a3, a4, areFin ys hy, a5, shI_all xs a2, timesI _ _ _ _ (shM_length xs) a3 hm hx hx (by omega), allFinI _ hd,
        Option.bind_some, Bool.and_self, Bool.not_true, Bool.false_eq_true, if_false, if_true, decide_true]
      split <;> simp [Tree.run]
    · have hS := shortS xs hx
      have hT := shortS ys hy
      rw [c1, c2, a4] at hS
      rw [a3, c1, c2, a5] at hT
      simp only [spec_ShiftTimes_g, spec_ShiftTimes_T, Tree.run, hS, hT, a3, shS_all xs a2, timesS _ _ _ _ (shM_length xs) a3 hm hx hx, listS _ hd,
        Option.bind_some, Bool.and_self, Bool.not_true, Bool.false_eq_true, if_false, if_true, decide_true]
      split <;> simp [Tree.run]
    · intro d h
      split at h
      · cases h; rw [timesL_length]; omega
      · cases h
  · refine ⟨.inl (), ?_, ?_, fun m h => by cases h⟩
    · simp only [impl_ShiftTimes_g, impl_ShiftTimes_T, Tree.run, isListI xs 12 hx, areFin ys hy, Option.bind_some]
      split
      · rfl
      · split
        · rfl
        · split
          · rfl
          · exfalso
            rename_i k1 k2 k3
            simp at k1 k2 k3
            exact h1 ⟨by omega, by omega, by omega, by simpa using k1.2, by simpa using k3⟩
    · simp only [spec_ShiftTimes_g, spec_ShiftTimes_T, Tree.run, shortS xs hx, shortS ys hy, Option.bind_some]
      split
      · rfl
      · split
        · rfl
        · split
          · rfl
          · exfalso
            rename_i k1 k2 k3
            simp at k1 k2 k3
            exact h1 ⟨by omega, by omega, by omega, by simpa using k1.2, by simpa using k2.2⟩
theorem shM_law (x0 : List Nat) (h0 : x0.length ≤ maxN) : laws_FnExactShiftMatrix_g x0 = some true := by
  have q0 := h0
  unfold maxN at q0
  obtain ⟨r, i1, i2, i3⟩ := shM_both x0 h0
  have en := eqM_self 0 0 [] (by simp [maxN])
  have hn := heldM_nil 1 (by omega) (by omega)
  have m0 := mark_ok x0 (1) h0 (by omega) (by omega)
  have g1 : decide (((1 : Int) + x0.length : Int) < 0) = false := by simp; omega
  by_cases c0 : (1048576 : Int) < x0.length
  · simp [laws_FnExactShiftMatrix_g, laws_FnExactShiftMatrix_T, Tree.run, c0]
  have d0 : decide ((1048576 : Int) < x0.length) = false := by simpa using c0
  cases r with
  | inl u =>
    simp only [laws_FnExactShiftMatrix_g, laws_FnExactShiftMatrix_T, Tree.run, i1, i2, en, hn, markM_nil, m0, toF_ok x0 h0, eqF_self x0 h0, g1, d0, Option.bind_some, Bool.false_eq_true, if_false, if_true, decide_true, Bool.not_true, Bool.not_false, beq_self_eq_true, marks_length]
    first | done | simp [Tree.run]
  | inr d =>
    obtain ⟨m1, m2, d⟩ := d
    have hd := i3 _ rfl
    simp only at hd
    have hd' : d.length ≤ maxN := by unfold maxN; omega
    have md := markM_ok d 1 hd' (by omega) (by omega)
    have hl := heldM_ok 1 d.length hd' (by omega) (by omega)
    have g2 : decide ((1 : Int) + d.length < 0) = false := by simp; omega
    simp only [laws_FnExactShiftMatrix_g, laws_FnExactShiftMatrix_T, Tree.run, i1, i2, en, hn, markM_nil, m0, toF_ok x0 h0, eqF_self x0 h0, g1, d0, md, hl, g2, eqM_self m1 m2 d hd', Option.bind_some, Bool.false_eq_true, if_false, if_true, decide_true, Bool.not_true, Bool.not_false, beq_self_eq_true, marks_length]
    first | done | simp [Tree.run]
theorem shT_law (x0 : List Nat) (x1 : List Nat) (h0 : x0.length ≤ maxN) (h1 : x1.length ≤ maxN) : laws_FnExactShiftTimes_g x0 x1 = some true := by
  have q0 := h0
  have q1 := h1
  unfold maxN at q0 q1
  obtain ⟨r, i1, i2, i3⟩ := shT_both x0 x1 h0 h1
  have en := eqF_self [] (by simp [maxN])
  have hn := held_nil 1 (by omega) (by omega)
  have m0 := mark_ok x0 (1) h0 (by omega) (by omega)
  have m1 := mark_ok x1 (1 + x0.length) h1 (by omega) (by omega)
  have g1 : decide (((1 : Int) + x0.length + x1.length : Int) < 0) = false := by simp; omega
  by_cases c0 : (1048576 : Int) < x0.length
  · simp [laws_FnExactShiftTimes_g, laws_FnExactShiftTimes_T, Tree.run, c0]
  by_cases c1 : (1048576 : Int) < x1.length
  · simp [laws_FnExactShiftTimes_g, laws_FnExactShiftTimes_T, Tree.run, c0, c1]
  have d0 : decide ((1048576 : Int) < x0.length) = false := by simpa using c0
  have d1 : decide ((1048576 : Int) < x1.length) = false := by simpa using c1
  cases r with
  | inl u =>
    simp only [laws_FnExactShiftTimes_g, laws_FnExactShiftTimes_T, Tree.run, i1, i2, en, hn, mark_nil, m0, toF_ok x0 h0, eqF_self x0 h0, m1, toF_ok x1 h1, eqF_self x1 h1, g1, d0, d1, Option.bind_some, Bool.false_eq_true, if_false, if_true, decide_true, Bool.not_true, Bool.not_false, beq_self_eq_true, marks_length]
    first | done | simp [Tree.run]
  | inr d =>
    have hd := i3 _ rfl
    have hd' : d.length ≤ maxN := by unfold maxN; omega
    have md := mark_ok d 1 hd' (by omega) (by omega)
    have hl := held_ok 1 d.length hd' (by omega) (by omega)
    have g2 : decide ((1 : Int) + d.length < 0) = false := by simp; omega
    simp only [laws_FnExactShiftTimes_g, laws_FnExactShiftTimes_T, Tree.run, i1, i2, en, hn, mark_nil, m0, toF_ok x0 h0, eqF_self x0 h0, m1, toF_ok x1 h1, eqF_self x1 h1, g1, d0, d1, md, hl, g2, eqF_self d hd', Option.bind_some, Bool.false_eq_true, if_false, if_true, decide_true, Bool.not_true, Bool.not_false, beq_self_eq_true, marks_length]
    first | done | simp [Tree.run]
end Go.Proofs.Ytjniaobboclniaa.AM
