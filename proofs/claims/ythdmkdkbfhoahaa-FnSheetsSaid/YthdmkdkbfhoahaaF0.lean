/- What is finite: the program's words and the reference's. -/
import Derived.Test.YthdmkdkbfhoahaaX1
import Derived.Test.YthdmkdkbfhoahaaD17
set_option linter.unusedSimpArgs false
set_option linter.unusedVariables false
namespace Go.Proofs.Ythdmkdkbfhoahaa.AM

theorem finI (x : Nat) : impl_IsFinite_v x = sfin x := by
  rw [← ifin]
  unfold impl_IsFinite_v impl_isFinite64_v math_IsNaN_v math_IsInf_v maxF64
  cases feq .f64 (wid x) (wid x) <;> simp
theorem fin1 (x : Nat) : impl_areFinite_1_v x = !sfin x := by unfold impl_areFinite_1_v; rw [finI]

theorem areFin (xs : List Nat) (h : xs.length ≤ maxN) : impl_areFinite_g xs = some (xs.all sfin) := by
  unfold maxN at h
  have hT : ∀ i, i < xs.length → (slices_IndexFuncF_l0_T xs (i : Int)).run = if (!sfin (nth xs i)) = true then some (.inr (.inl (i : Int))) else some (.inl ((i + 1 : Nat) : Int)) := by
    intro i hi
    simp only [slices_IndexFuncF_l0_T, Tree.run, lt_nat, inb_nat, hi, decide_true, if_true, fin1, Int.toNat_natCast, w_succ (show i < 4611686018427387904 by omega)]
  have he : (slices_IndexFuncF_l0_T xs (xs.length : Int)).run = some (.inr (.inr ())) := by
    simp [slices_IndexFuncF_l0_T, Tree.run]
  have := whileM_find (T := fun s => (slices_IndexFuncF_l0_T xs s).run) (p := fun i => !sfin (nth xs i)) (a := fun i => .inl (i : Int)) hT he
  have ha := find_any xs.length (fun i => !sfin (nth xs i))
  rw [any_range (fun x => !sfin x), any_not] at ha
  simp only [impl_areFinite_g, impl_areFinite_T, slices_ContainsFuncF_g, slices_ContainsFuncF_T, slices_IndexFuncF_g, slices_IndexFuncF_T, Tree.run, if_true, slices_IndexFuncF_l0_g, this]
  cases hf : (List.range xs.length).find? (fun i => !sfin (nth xs i)) with
  | none =>
    rw [hf] at ha
    have : xs.all sfin = true := by simpa using ha.symm
    rw [this]; simp [Tree.run]
  | some i =>
    rw [hf] at ha
    have : xs.all sfin = false := by simpa using ha.symm
    rw [this]; simp [Tree.run]
theorem inR (n a b : Int) : impl_inRange_v n a b = (decide (a ≤ n) && decide (n ≤ b)) := by
  unfold impl_inRange_v
  cases decide (a ≤ n) <;> simp
end Go.Proofs.Ythdmkdkbfhoahaa.AM
