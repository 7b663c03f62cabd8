/- More pure words. -/
import Derived.Test.YtbnakafnaeafiaaD17
set_option linter.unusedSimpArgs false
set_option linter.unusedVariables false
namespace Go.Proofs.Ytbnakafnaeafiaa.AM

/-- A walk of n steps whose every state is known. -/
theorem whileM_fix {τ ρ : Type} {T : τ → Option (τ ⊕ ρ)} (st : Nat → τ) {n : Nat} {r : ρ} (hT : ∀ i, i < n → T (st i) = some (.inl (st (i + 1)))) (he : T (st n) = some (.inr r)) : whileM T (st 0) = some r :=
  (whileM_for (T := T) (σ := Unit) (fun i _ => st i) (fun _ s => s) (fun _ _ => True) (s := ()) (r := fun _ => r) trivial (fun i _ hi _ => ⟨hT i hi, trivial⟩) (fun _ _ => he)).1

theorem nth_map_range {α : Type} [Inhabited α] (f : Nat → α) (n p : Nat) (h : p < n) : nth ((List.range n).map f) p = f p := by
  rw [nth_of _ _ (by simpa using h)]; simp
/-- A square of side n, one row after another. -/
def sq {α : Type} (n : Nat) (f : Nat → Nat → α) : List α := (List.range (n * n)).map fun p => f (p / n) (p % n)
@[simp] theorem sq_length {α : Type} (n : Nat) (f : Nat → Nat → α) : (sq n f).length = n * n := by simp [sq]
end Go.Proofs.Ytbnakafnaeafiaa.AM
