/- A row is added to what lies above. -/
import Derived.Test.YtflodniglbgkhaaP4
set_option linter.unusedSimpArgs false
set_option linter.unusedVariables false
namespace Go.Proofs.Ytflodniglbgkhaa.AM

/-- What lies above. -/
def upL (n m : Nat) (M : List Nat) : List Nat := rc n m fun i k => if k < i then 0 else nth M (i * m + k)
@[simp] theorem upL_length (n m : Nat) (M : List Nat) : (upL n m M).length = n * m := by simp [upL]
theorem set_sub {xs : List Nat} {p j : Nat} {v : Nat} (h : p < xs.length) : nth (xs.set p v) j = if p = j then v else nth xs j := by
  split
  · rename_i e; subst e; exact nth_set_eq _ _ _ h
  · rename_i e; exact nth_set_ne _ _ _ _ e
theorem rc_inj {m i k j l : Nat} (hk : k < m) (hl : l < m) (h : i * m + k = j * m + l) : i = j ∧ k = l := by
  have h1 := rc_div (i := i) hk
  have h2 := rc_div (i := j) hl
  have h3 := rc_mod (i := i) hk
  have h4 := rc_mod (i := j) hl
  rw [h] at h1 h3
  omega
theorem sqI (r c : Int) (x : List Nat) (hx : x.length ≤ maxN) : impl_isSquare_g r c x = some (vm r c x && decide (r = c)) := by
  simp only [impl_isSquare_g, impl_isSquare_T, Tree.run, vmI r c x hx, Option.bind_some]
  cases vm r c x <;> simp
theorem sqS (r c : Int) (x : List Nat) (hx : x.length ≤ maxN) : spec_l02Square_g r c x = some (vm r c x && decide (r = c)) := by
  simp only [spec_l02Square_g, spec_l02Square_T, Tree.run, vmS r c x hx, Option.bind_some]
  cases vm r c x <;> simp
end Go.Proofs.Ytflodniglbgkhaa.AM
