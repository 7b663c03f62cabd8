/- The law of divided differences, on lists. -/
import Derived.Test.YtbhmllcnfdndhaaL1
set_option linter.unusedSimpArgs false
set_option linter.unusedVariables false
namespace Go.Proofs.Ytbhmllcnfdndhaa.AM

theorem divided_law (xs ys : List Nat) (hx : xs.length ≤ maxN) (hy : ys.length ≤ maxN) : laws_FnExactDividedOf_g xs ys = some true := by
  have hx' := hx
  have hy' := hy
  unfold maxN at hx' hy'
  obtain ⟨r, i1, i2, i3⟩ := dd_both xs ys hx hy
  have en := eqF_self [] (by simp [maxN])
  have hn := held_nil 1 (by omega) (by omega)
  have mx := mark_ok xs 1 hx (by omega) (by omega)
  have my := mark_ok ys (1 + xs.length) hy (by omega) (by omega)
  have g1 : decide ((1 : Int) + xs.length + ys.length < 0) = false := by simp; omega
  by_cases c1 : (1048576 : Int) < xs.length
  · simp [laws_FnExactDividedOf_g, laws_FnExactDividedOf_T, Tree.run, c1]
  by_cases c2 : (1048576 : Int) < ys.length
  · simp [laws_FnExactDividedOf_g, laws_FnExactDividedOf_T, Tree.run, c1, c2]
  have d1 : decide ((1048576 : Int) < xs.length) = false := by simpa using c1
  have d2 : decide ((1048576 : Int) < ys.length) = false := by simpa using c2
  cases r with
  | inl u =>
    simp only [laws_FnExactDividedOf_g, laws_FnExactDividedOf_T, Tree.run, d1, d2, toF_ok xs hx, toF_ok ys hy, i1, i2, eqF_self xs hx, eqF_self ys hy, en, hn, mx, my, mark_nil, marks_length, g1,
      Option.bind_some, Bool.false_eq_true, if_false, if_true, decide_true, Bool.not_true, Bool.not_false, beq_self_eq_true]
    first | done | simp [Tree.run]
  | inr d =>
    have hd := i3 d rfl
    have hd' : d.length ≤ maxN := by unfold maxN; omega
    have md := mark_ok d 1 hd' (by omega) (by omega)
    have hl := held_ok 1 d.length hd' (by omega) (by omega)
    have g2 : decide ((1 : Int) + d.length < 0) = false := by simp; omega
    simp only [laws_FnExactDividedOf_g, laws_FnExactDividedOf_T, Tree.run, d1, d2, toF_ok xs hx, toF_ok ys hy, i1, i2, eqF_self xs hx, eqF_self ys hy, en, hn, mx, my, mark_nil, marks_length, g1, eqF_self d hd', md, hl, g2,
      Option.bind_some, Bool.false_eq_true, if_false, if_true, decide_true, Bool.not_true, Bool.not_false, beq_self_eq_true]
    first | done | simp [Tree.run]
end Go.Proofs.Ytbhmllcnfdndhaa.AM
