/- Matrices and vectors: the words that both sides use. -/
import Derived.Test.YthdmkdkbfhoahaaL0
import Derived.Test.YthdmkdkbfhoahaaF0
import Derived.Test.YthdmkdkbfhoahaaD18
set_option linter.unusedSimpArgs false
set_option linter.unusedVariables false
namespace Go.Proofs.Ythdmkdkbfhoahaa.AM

theorem sq_wrap {n : Nat} (hn : n ≤ 12) : IntKind.i64.wrap ((n : Int) * n) = ((n * n : Nat) : Int) := by
  have h : n * n ≤ 144 := Nat.mul_le_mul hn hn
  have : ((n : Int) * n) = ((n * n : Nat) : Int) := by simp
  rw [this, w64 (by omega) (by omega)]
theorem at_wrap {n i k : Nat} (hi : i < n) (hk : k < n) (hn : n ≤ 12) : IntKind.i64.wrap ((IntKind.i64.wrap ((i : Int) * (n : Int))) + (k : Int)) = ((i * n + k : Nat) : Int) := by
  have h : n * n ≤ 144 := Nat.mul_le_mul hn hn
  have h2 := sq_lt hi hk
  have : ((i : Int) * n) = ((i * n : Nat) : Int) := by simp
  rw [this, w64 (n := ((i * n : Nat) : Int)) (by omega) (by omega), w64 (by omega) (by omega)]; omega
/-- A sum of the first so many. -/
noncomputable def dotN (f : Nat → Nat) : Nat → Nat
  | 0 => 0
  | n + 1 => fadd .f32 (dotN f n) (f n)
/-- The rows' products with a vector. -/
noncomputable def timesL (n m : Nat) (M v : List Nat) : List Nat := (List.range n).map fun r => dotN (fun i => fmul .f32 (nth (AM.sub M ((r * m : Nat) : Int) (((r + 1) * m : Nat) : Int)) i) (nth v i)) m
@[simp] theorem timesL_length (n m : Nat) (M v : List Nat) : (timesL n m M v).length = n := by simp [timesL]
theorem row_wrap {n m r : Nat} (hr : r < n) (h : n * m ≤ maxN) : IntKind.i64.wrap ((r : Int) * (m : Int)) = ((r * m : Nat) : Int) ∧ IntKind.i64.wrap ((IntKind.i64.wrap ((r : Int) + 1)) * (m : Int)) = (((r + 1) * m : Nat) : Int) ∧ r * m + m ≤ n * m ∧ (r + 1) * m = r * m + m := by
  have h1 : (r + 1) * m ≤ n * m := Nat.mul_le_mul_right m hr
  have h2 : (r + 1) * m = r * m + m := by rw [Nat.add_mul, Nat.one_mul]
  unfold maxN at h
  have h3 : ((r : Int) * (m : Int)) = ((r * m : Nat) : Int) := by simp
  have h4 : (((r + 1 : Nat) : Int) * (m : Int)) = (((r + 1) * m : Nat) : Int) := by simp
  have h5 : IntKind.i64.wrap ((r : Int) * (m : Int)) = ((r * m : Nat) : Int) := by rw [h3, w64 (by omega) (by omega)]
  refine ⟨h5, ?_, by omega, h2⟩
  by_cases h0 : r < 4611686018427387904
  · rw [w_succ h0, h4, w64 (by omega) (by omega)]
  · have hm : m = 0 := by
      rcases Nat.eq_zero_or_pos m with h | h
      · exact h
      · have := Nat.le_mul_of_pos_right r h
        omega
    subst hm
    simp [IntKind.wrap_i64]
theorem row_sok {n m r : Nat} {M : List Nat} (hr : r < n) (h : n * m ≤ maxN) (hM : M.length = n * m) : sok ((r * m : Nat) : Int) (((r + 1) * m : Nat) : Int) M.length = true := by
  obtain ⟨_, _, h3, h4⟩ := row_wrap (m := m) hr h
  exact sok_iff.2 ⟨by omega, by omega, by omega⟩
theorem row_length {n m r : Nat} {M : List Nat} (hr : r < n) (h : n * m ≤ maxN) (hM : M.length = n * m) : (AM.sub M ((r * m : Nat) : Int) (((r + 1) * m : Nat) : Int)).length = m := by
  obtain ⟨_, _, h3, h4⟩ := row_wrap (m := m) hr h
  rw [sub_length (row_sok hr h hM)]; omega
end Go.Proofs.Ythdmkdkbfhoahaa.AM
