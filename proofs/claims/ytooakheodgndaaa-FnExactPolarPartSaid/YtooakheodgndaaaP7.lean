/- Powers of a square. -/
import Derived.Test.YtooakheodgndaaaP6
set_option linter.unusedSimpArgs false
set_option linter.unusedVariables false
namespace Go.Proofs.Ytooakheodgndaaa.AM

theorem mmI {n : Nat} {A B : List Nat} (h1 : 1 ≤ n) (hn : n ≤ 12) (hA : A.length = n * n) (hB : B.length = n * n) (fA : A.all sfin = true) (fB : B.all sfin = true) :
    impl_MulMatrices_g n n A n n B = some (if (mulL n n n A B).all sfin = true then .inr ((n : Int), (n : Int), mulL n n n A B) else .inl ()) := by
  have hb := le144 hn hn
  have eI := areFacI n n A n n B (by unfold maxN; omega) (by unfold maxN; omega)
  rw [vm_nat h1 hn h1 hn hA, vm_nat h1 hn h1 hn hB, fA, fB] at eI
  simp only [decide_true, Bool.and_self] at eI
  have gI := mulI (q := n) h1 hn hn hn hA hB
  have hl := mulL_length n n n A B
  generalize mulL n n n A B = d at gI hl
  have kI := validR h1 hn h1 hn hl
  simp only [impl_MulMatrices_g, impl_MulMatrices_T, Tree.run, eI, gI, kI, Option.bind_some, Bool.not_true, Bool.false_eq_true, if_false]
  split <;> simp [Tree.run]
theorem isL {n : Nat} {L : List Nat} (h1 : 1 ≤ n) (hn : n ≤ 12) (hL : L.length = n * n) : spec_l02Is_g n n L = some (L.all sfin) := by
  have hb := le144 hn hn
  have := vmS n n L (by unfold maxN; omega)
  rw [vm_nat h1 hn h1 hn hL] at this
  exact this
theorem sfin_one : sfin 1065353216 = true := by kernel_rfl
theorem sfin_zero : sfin 0 = true := by kernel_rfl
theorem unit_fin (n : Nat) : (unitL n).all sfin = true := by
  rw [List.all_eq_true]
  intro v hv
  unfold unitL rc at hv
  obtain ⟨p, _, rfl⟩ := List.mem_map.1 hv
  simp only
  split
  · exact sfin_one
  · exact sfin_zero
end Go.Proofs.Ytooakheodgndaaa.AM
