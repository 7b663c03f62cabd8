/- What the laws' own helpers come to: copies, comparisons, marks. -/
import Derived.Test.YthdmkdkbfhoahaaX1
import Derived.Test.YthdmkdkbfhoahaaD17
set_option linter.unusedSimpArgs false
set_option linter.unusedVariables false
namespace Go.Proofs.Ythdmkdkbfhoahaa.AM

theorem same_self (x : Nat) : laws_sameFloat_v x x = true := by
  unfold laws_sameFloat_v
  cases h : feq .f64 x x <;> simp [h]

theorem eqF_self (xs : List Nat) (h : xs.length ≤ maxN) : laws_eqFloat32S_g xs xs = some true := by
  have hm := h
  unfold maxN at hm
  have hT : ∀ i, i < xs.length → (laws_eqFloat32S_l0_T xs xs (i : Int)).run = if (false : Bool) = true then some (.inr (.inl ())) else some (.inl ((i + 1 : Nat) : Int)) := by
    intro i hi
    simp [laws_eqFloat32S_l0_T, Tree.run, hi, same_self, w_succ (show i < 4611686018427387904 by omega)]
  have he : (laws_eqFloat32S_l0_T xs xs (xs.length : Int)).run = some (.inr (.inr ())) := by
    simp [laws_eqFloat32S_l0_T, Tree.run]
  have := whileM_scan (T := fun s => (laws_eqFloat32S_l0_T xs xs s).run) (p := fun _ => false) hT he
  simp only [laws_eqFloat32S_g, laws_eqFloat32S_T, Tree.run, if_true, laws_eqFloat32S_l0_g]
  rw [this]
  simp [Tree.run]

theorem held_ok (k : Int) (n : Nat) (h : n ≤ maxN) (h0 : 0 ≤ k) (h1 : k ≤ 1099511627776) : laws_heldFloat32S_g (marks k n) k = some (k + n) := by
  have hm := h
  unfold maxN at hm
  have hT : ∀ i (s : Unit), i < n → True → ((laws_heldFloat32S_l0_T (marks k n) (k + (i : Nat), (i : Int))).run = some (.inl (k + ((i + 1 : Nat) : Int), ((i + 1 : Nat) : Int))) ∧ True) := by
    intro i s hi _
    have e : IntKind.i64.wrap (k + (i : Int) + 1) = k + ((i + 1 : Nat) : Int) := by rw [w64 (by omega) (by omega)]; omega
    simp [laws_heldFloat32S_l0_T, Tree.run, hi, marks_nth k n i hi, w_succ (show i < 4611686018427387904 by omega), e]
  have he : ∀ s : Unit, True → (laws_heldFloat32S_l0_T (marks k n) (k + (n : Nat), (n : Int))).run = some (.inr (.inr (k + (n : Nat)))) := by
    intro s _
    simp [laws_heldFloat32S_l0_T, Tree.run]
  have := whileM_for (T := fun s => (laws_heldFloat32S_l0_T (marks k n) s).run) (fun i (_ : Unit) => (k + (i : Nat), (i : Int))) (fun _ s => s) (fun _ _ => True) (s := ()) (r := fun _ => .inr (k + (n : Nat))) trivial hT he
  simp only [laws_heldFloat32S_g, laws_heldFloat32S_T, Tree.run, if_true, laws_heldFloat32S_l0_g]
  have e0 : (k, (0 : Int)) = (k + ((0 : Nat) : Int), ((0 : Nat) : Int)) := by simp
  rw [e0, this.1]
  rfl
theorem held_nil (k : Int) (h0 : 0 ≤ k) (h1 : k ≤ 1099511627776) : laws_heldFloat32S_g [] k = some k := by
  have := held_ok k 0 (by unfold maxN; omega) h0 h1
  simpa [marks] using this
end Go.Proofs.Ythdmkdkbfhoahaa.AM
