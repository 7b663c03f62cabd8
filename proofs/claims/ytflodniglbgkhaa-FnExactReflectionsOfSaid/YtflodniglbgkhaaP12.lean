/- Shift squares: reflections and solutions. -/
import Derived.Test.YtflodniglbgkhaaP4
set_option linter.unusedSimpArgs false
set_option linter.unusedVariables false
namespace Go.Proofs.Ytflodniglbgkhaa.AM

theorem wsub {a b : Nat} (h : b ≤ a) (ha : a ≤ 1000) : IntKind.i64.wrap ((a : Int) - (b : Int)) = ((a - b : Nat) : Int) := by rw [w64 (by omega) (by omega)]; omega
theorem wsub1 {m : Nat} (h : m ≤ 1000) : IntKind.i64.wrap (((m + 1 : Nat) : Int) - 1) = (m : Int) := by rw [w64 (by omega) (by omega)]; omega
theorem wsub2 {m : Nat} (h1 : 1 ≤ m) (h : m ≤ 1000) : IntKind.i64.wrap (((m + 1 : Nat) : Int) - 2) = ((m - 1 : Nat) : Int) := by rw [w64 (by omega) (by omega)]; omega
noncomputable def sA (v a : List Nat) (m : Nat) : Nat := dotN (fun j => fmul .f32 (nth a j) (nth v (m - j))) m
noncomputable def rA (v a : List Nat) (e m : Nat) : Nat := fdiv .f32 (fsub .f32 (nth v (m + 1)) (sA v a m)) e
noncomputable def lA (a : List Nat) (r m : Nat) : List Nat := (List.range m).map fun j => fsub .f32 (nth a j) (fmul .f32 r (nth a (m - 1 - j)))
noncomputable def nA (a : List Nat) (r m : Nat) : List Nat := lA a r m ++ [r]
noncomputable def nE (e r : Nat) : Nat := fmul .f32 e (fsub .f32 1065353216 (fmul .f32 r r))
@[simp] theorem lA_length (a : List Nat) (r m : Nat) : (lA a r m).length = m := by simp [lA]
@[simp] theorem nA_length (a : List Nat) (r m : Nat) : (nA a r m).length = m + 1 := by simp [nA]
theorem growS {v a : List Nat} {e m : Nat} (ha : a.length = m) (hm : m + 1 < v.length) (hv : v.length ≤ 12) : spec_l07Grow_g v a e ((m + 1 : Nat) : Int) = some (nE e (rA v a e m), rA v a e m, nA a (rA v a e m) m) := by
  have g1 : spec_l07Grow_l0_g v a ((m + 1 : Nat) : Int) ((0 : Nat), (0 : Int)) = some (sA v a m) := by
    refine whileM_fix (T := fun s => (spec_l07Grow_l0_T v a ((m + 1 : Nat) : Int) s).run) (n := m) (fun i => (dotN (fun j => fmul .f32 (nth a j) (nth v (m - j))) i, (i : Int))) ?_ ?_
    · intro i hi
      simp only [spec_l07Grow_l0_T, Tree.run, ha, lt_nat, inb_nat, hi, wsub1 (show m ≤ 1000 by omega), wsub (show i ≤ m by omega) (show m ≤ 1000 by omega), show m - i < v.length by omega, decide_true, if_true, Int.toNat_natCast, w1 (show i ≤ 1000 by omega), dotN]
    · simp [spec_l07Grow_l0_T, Tree.run, ha]; rfl
  have g2 : ∀ r, spec_l07Grow_l2_g a ((m + 1 : Nat) : Int) r ((0 : Int), ([] : List Nat)) = some (lA a r m) := by
    intro r
    unfold lA
    refine app_gen (T := fun s => (spec_l07Grow_l2_T a ((m + 1 : Nat) : Int) r s).run) ?_ ?_
    · intro i s hi hs
      simp only [spec_l07Grow_l2_T, Tree.run, ha, lt_nat, inb_nat, hi, wsub2 (show 1 ≤ m by omega) (show m ≤ 1000 by omega), wsub (show i ≤ m - 1 by omega) (show m - 1 ≤ 1000 by omega), show m - 1 - i < m by omega, decide_true, if_true, Int.toNat_natCast, w1 (show i ≤ 1000 by omega)]
      rw [if_pos (fitsN (by simp; omega))]
    · intro s; simp [spec_l07Grow_l2_T, Tree.run, ha]
  simp only [spec_l07Grow_g, spec_l07Grow_T, Tree.run, g1, Option.bind_some, inb_nat, hm, decide_true, if_true, Int.toNat_natCast, g2]
  rw [if_pos (fitsN (by simp; omega))]
  rfl
theorem nextI {v a rs : List Nat} {e m : Nat} (h1 : 1 ≤ m) (ha : a.length = m) (hr : rs.length = m) (hm : m + 1 < v.length) (hv : v.length ≤ 12) :
    impl_reflections_next_g a rs e v ((m + 1 : Nat) : Int) = some (fgrt .f32 (nE e (rA v a e m)) 0, nE e (rA v a e m), nA a (rA v a e m) m, rs ++ [rA v a e m]) := by
  have g1 : impl_reflections_next_l0_g a v ((m + 1 : Nat) : Int) ((0 : Nat), (0 : Int)) = some (sA v a m) := by
    refine whileM_fix (T := fun s => (impl_reflections_next_l0_T a v ((m + 1 : Nat) : Int) s).run) (n := m) (fun i => (dotN (fun j => fmul .f32 (nth a j) (nth v (m - j))) i, (i : Int))) ?_ ?_
    · intro i hi
      simp only [impl_reflections_next_l0_T, impl_mul_v, Tree.run, ha, lt_nat, inb_nat, hi, wsub1 (show m ≤ 1000 by omega), wsub (show i ≤ m by omega) (show m ≤ 1000 by omega), show m - i < v.length by omega, decide_true, if_true, Int.toNat_natCast, w1 (show i ≤ 1000 by omega), dotN]
    · simp [impl_reflections_next_l0_T, Tree.run, ha]; rfl
  have g2 : ∀ r, impl_reflections_next_l2_g a ((m + 1 : Nat) : Int) r ((0 : Int), a) = some (lA a r m) := by
    intro r
    unfold lA
    refine each_gen (T := fun s => (impl_reflections_next_l2_T a ((m + 1 : Nat) : Int) r s).run) (fun i y => fsub .f32 y (fmul .f32 r (nth a (m - 1 - i)))) ha ?_ ?_
    · intro i s hi hs
      simp only [impl_reflections_next_l2_T, impl_mul_v, Tree.run, ha, hs, List.nil_append, lt_nat, inb_nat, hi, wsub2 (show 1 ≤ m by omega) (show m ≤ 1000 by omega), wsub (show i ≤ m - 1 by omega) (show m - 1 ≤ 1000 by omega), show m - 1 - i < m by omega, decide_true, if_true, Int.toNat_natCast, w1 (show i ≤ 1000 by omega)]
    · intro s hs; simp [impl_reflections_next_l2_T, Tree.run, ha]
  have g3 : slices_CloneF_g a = some () := by
    simp only [slices_CloneF_g, slices_CloneF_T, Tree.run, List.nil_append, ha, show 0 < m by omega, decide_true, if_true, fitsN (show m ≤ 1000 by omega)]
  simp only [impl_reflections_next_g, impl_reflections_next_T, impl_mul_v, Tree.run, g1, g3, Option.bind_some, inb_nat, hm, decide_true, if_true, Int.toNat_natCast, g2]
  rw [if_pos (fitsN (by simp; omega)), if_pos (fitsN (by simp; omega))]
  rfl
theorem nextI1 {v : List Nat} {e : Nat} (hm : 1 < v.length) : impl_reflections_next_i1_g e v 1 = some (fgrt .f32 (nE e (rA v [] e 0)) 0, nE e (rA v [] e 0)) := by
  have g1 : impl_reflections_next_i1_l0_g () = some () := whileM_inr (T := fun s => (impl_reflections_next_i1_l0_T s).run) (by simp [impl_reflections_next_i1_l0_T, Tree.run])
  have g2 : impl_reflections_next_i1_l2_g () = some () := whileM_inr (T := fun s => (impl_reflections_next_i1_l2_T s).run) (by simp [impl_reflections_next_i1_l2_T, Tree.run])
  have hin : inb (1 : Int) v.length = true := by have := inb_nat 1 v.length; simpa [hm] using this
  simp only [impl_reflections_next_i1_g, impl_reflections_next_i1_T, impl_mul_v, Tree.run, g1, g2, hin, Option.bind_some, if_true]
  rw [if_pos (fitsN (by simp))]
  simp [fitsN (show 1 ≤ 1000 by omega)]
  exact ⟨rfl, rfl⟩
noncomputable def sX (v x : List Nat) (m : Nat) : Nat := dotN (fun j => fmul .f32 (nth x j) (nth v (m + 1 - j))) (m + 1)
noncomputable def lX (x a : List Nat) (q m : Nat) : List Nat := (List.range (m + 1)).map fun j => fsub .f32 (nth x j) (fmul .f32 q (nth a (m - j)))
@[simp] theorem lX_length (x a : List Nat) (q m : Nat) : (lX x a q m).length = m + 1 := by simp [lX]
end Go.Proofs.Ytflodniglbgkhaa.AM
