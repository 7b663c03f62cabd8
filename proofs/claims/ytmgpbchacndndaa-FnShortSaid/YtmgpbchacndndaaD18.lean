import Derived.Test.YtmgpbchacndndaaD17
set_option linter.unusedSimpArgs false
set_option linter.unusedVariables false
namespace Go.Proofs.Ytmgpbchacndndaa.AM
theorem Bv_ {τ ρ : Type} {T : τ → Option (τ ⊕ ρ)} (st : Nat → τ) {n : Nat} {r : ρ} (hT : ∀ i, i < n → T (st i) = some (.inl (st (i + 1)))) (he : T (st n) = some (.inr r)) : Af_ T (st 0) = some r :=
  (Ai4_ (T := T) (σ := Unit) (fun i _ => st i) (fun _ s => s) (fun _ _ => True) (s := ()) (r := fun _ => r) trivial (fun i _ hi _ => ⟨hT i hi, trivial⟩) (fun _ _ => he)).1
theorem Ae3_ {τ ρ : Type} {T : τ → Option (τ ⊕ ρ)} (st : Nat → τ) {n : Nat} {p : Nat → Bool} {a b : ρ} (hT : ∀ i, i < n → T (st i) = if p i = true then some (.inr a) else some (.inl (st (i + 1)))) (he : T (st n) = some (.inr b)) :
    Af_ T (st 0) = some (if ((List.range n).any p) = true then a else b) := by
  have key : ∀ d i, i + d = n → Af_ T (st i) = some (if ((List.range' i d).any p) = true then a else b) := by
    intro d
    induction d with
    | zero =>
      intro i hi
      rw [Ch_]
      have : i = n := by omega
      subst this
      simp [he]
    | succ d ih =>
      intro i hi
      rw [Ch_, hT i (by omega)]
      cases hp : p i with
      | true => simp [List.range'_succ, hp]
      | false =>
        simp only [Bool.false_eq_true, if_false]
        rw [ih (i + 1) (by omega)]
        simp only [List.range'_succ, List.any_cons, hp, Bool.false_or]
  have := key n 0 (by omega)
  rw [List.range_eq_range']
  exact this
theorem A8_ {α : Type} [Inhabited α] (f : Nat → α) (n p : Nat) (h : p < n) : nth ((List.range n).map f) p = f p := by
  rw [Ao_ _ _ (by simpa using h)]; simp
def sq {α : Type} (n : Nat) (f : Nat → Nat → α) : List α := (List.range (n * n)).map fun p => f (p / n) (p % n)
@[simp] theorem Arb_ {α : Type} (n : Nat) (f : Nat → Nat → α) : (sq n f).length = n * n := by simp [sq]
end Go.Proofs.Ytmgpbchacndndaa.AM
