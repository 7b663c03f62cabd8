/- The laws' own helpers on lists of whole numbers; loops over a stretch of whole numbers. -/
import Derived.Test.YtimlecagkbbnpaaL0
import Derived.Test.YtimlecagkbbnpaaF0
import Derived.Test.YtimlecagkbbnpaaD18
set_option linter.unusedSimpArgs false
set_option linter.unusedVariables false
namespace Go.Proofs.Ytimlecagkbbnpaa.AM

/-- A loop upward from a that is left where p holds, or at b. -/
theorem scanI {ρ : Type} {T : Int → Option (Int ⊕ ρ)} (p : Int → Prop) {x y : ρ} {a b : Int}
    (hT : ∀ k, a ≤ k → k < b → (∀ j, a ≤ j → j < k → ¬ p j) → (p k ∧ T k = some (.inr x)) ∨ (¬ p k ∧ T k = some (.inl (k + 1))))
    (hb : ∀ k, a ≤ k → b ≤ k → (k = a ∨ k = b) → T k = some (.inr y)) :
    ((∃ k, a ≤ k ∧ k < b ∧ p k) ∧ whileM T a = some x) ∨ ((∀ k, a ≤ k → k < b → ¬ p k) ∧ whileM T a = some y) := by
  have key : ∀ (d : Nat) (c : Int), a ≤ c → (c = a ∨ c ≤ b) → (b - c).toNat = d → (∀ j, a ≤ j → j < c → ¬ p j) → ((∃ k, c ≤ k ∧ k < b ∧ p k) ∧ whileM T c = some x) ∨ ((∀ k, c ≤ k → k < b → ¬ p k) ∧ whileM T c = some y) := by
    intro d
    induction d with
    | zero =>
      intro c h1 h2 h3 h4
      exact .inr ⟨fun k h5 h6 => by omega, by rw [whileM_eq, hb c h1 (by omega) (by omega)]⟩
    | succ d ih =>
      intro c h1 h2 h3 h4
      rcases hT c h1 (by omega) h4 with ⟨g1, g2⟩ | ⟨g1, g2⟩
      · exact .inl ⟨⟨c, Int.le_refl _, by omega, g1⟩, by rw [whileM_eq, g2]⟩
      · have h4' : ∀ j, a ≤ j → j < c + 1 → ¬ p j := fun j q1 q2 => by
          by_cases e : j = c
          · subst e; exact g1
          · exact h4 j q1 (by omega)
        rcases ih (c + 1) (by omega) (by omega) (by omega) h4' with ⟨⟨k, k1, k2, k3⟩, k4⟩ | ⟨k1, k2⟩
        · exact .inl ⟨⟨k, by omega, k2, k3⟩, by rw [whileM_eq, g2]; exact k4⟩
        · refine .inr ⟨fun k q1 q2 => ?_, by rw [whileM_eq, g2]; exact k2⟩
          by_cases e : k = c
          · subst e; exact g1
          · exact k1 k (by omega) q2
  exact key _ a (Int.le_refl _) (.inl rfl) rfl (fun j h1 h2 => by omega)
/-- A loop downward from a that is left where p holds, or below b. -/
theorem scanD {ρ : Type} {T : Int → Option (Int ⊕ ρ)} (p : Int → Prop) {x y : ρ} {a b : Int}
    (hT : ∀ k, b ≤ k → k ≤ a → (p k ∧ T k = some (.inr x)) ∨ (¬ p k ∧ T k = some (.inl (k - 1))))
    (hb : ∀ k, k ≤ a → k < b → (k = a ∨ k = b - 1) → T k = some (.inr y)) :
    ((∃ k, b ≤ k ∧ k ≤ a ∧ p k) ∧ whileM T a = some x) ∨ ((∀ k, b ≤ k → k ≤ a → ¬ p k) ∧ whileM T a = some y) := by
  have key : ∀ (d : Nat) (c : Int), c ≤ a → (c = a ∨ b - 1 ≤ c) → (c + 1 - b).toNat = d → ((∃ k, b ≤ k ∧ k ≤ c ∧ p k) ∧ whileM T c = some x) ∨ ((∀ k, b ≤ k → k ≤ c → ¬ p k) ∧ whileM T c = some y) := by
    intro d
    induction d with
    | zero =>
      intro c h1 h2 h3
      exact .inr ⟨fun k h5 h6 => by omega, by rw [whileM_eq, hb c h1 (by omega) (by omega)]⟩
    | succ d ih =>
      intro c h1 h2 h3
      rcases hT c (by omega) h1 with ⟨g1, g2⟩ | ⟨g1, g2⟩
      · exact .inl ⟨⟨c, by omega, Int.le_refl _, g1⟩, by rw [whileM_eq, g2]⟩
      · rcases ih (c - 1) (by omega) (by omega) (by omega) with ⟨⟨k, k1, k2, k3⟩, k4⟩ | ⟨k1, k2⟩
        · exact .inl ⟨⟨k, k1, by omega, k3⟩, by rw [whileM_eq, g2]; exact k4⟩
        · refine .inr ⟨fun k q1 q2 => ?_, by rw [whileM_eq, g2]; exact k2⟩
          by_cases e : k = c
          · subst e; exact g1
          · exact k1 k q1 (by omega)
  exact key _ a (Int.le_refl _) (.inl rfl) rfl
/-- f is done at a, a + 1, .., d times. -/
def overI {σ : Type} (f : Int → σ → σ) (a : Int) : Nat → σ → σ
  | 0, s => s
  | d + 1, s => overI f (a + 1) d (f a s)
/-- A loop upward from a to b that carries a state. -/
theorem forI {σ τ ρ : Type} {T : τ → Option (τ ⊕ ρ)} (enc : Int → σ → τ) (f : Int → σ → σ) (I : Int → σ → Prop) {r : σ → ρ} {a b : Int} (hab : a ≤ b)
    (hT : ∀ k s, a ≤ k → k < b → I k s → T (enc k s) = some (.inl (enc (k + 1) (f k s))) ∧ I (k + 1) (f k s)) (he : ∀ s, I b s → T (enc b s) = some (.inr (r s))) :
    ∀ s, I a s → whileM T (enc a s) = some (r (overI f a (b - a).toNat s)) ∧ I b (overI f a (b - a).toNat s) := by
  have key : ∀ (d : Nat) (c : Int) (s : σ), a ≤ c → c ≤ b → (b - c).toNat = d → I c s → whileM T (enc c s) = some (r (overI f c d s)) ∧ I b (overI f c d s) := by
    intro d
    induction d with
    | zero =>
      intro c s h1 h2 h3 hi
      have : c = b := by omega
      subst this
      exact ⟨by rw [whileM_eq, he s hi]; rfl, hi⟩
    | succ d ih =>
      intro c s h1 h2 h3 hi
      obtain ⟨g1, g2⟩ := hT c s h1 (by omega) hi
      rw [whileM_eq, g1]
      exact ih (c + 1) (f c s) (by omega) (by omega) (by omega) g2
  exact fun s hi => key _ a s (Int.le_refl _) hab rfl hi
theorem overI_congr {σ : Type} {f g : Int → σ → σ} : ∀ (d : Nat) (a : Int) (s : σ), (∀ k s, a ≤ k → k < a + d → f k s = g k s) → overI f a d s = overI g a d s
  | 0, _, _, _ => rfl
  | d + 1, a, s, h => by
    simp only [overI]
    rw [h a s (Int.le_refl _) (by omega)]
    exact overI_congr d (a + 1) (g a s) fun k s h1 h2 => h k s (by omega) (by omega)
/-- What a loop that counts appends. -/
theorem appI {T : Int × List Nat → Option ((Int × List Nat) ⊕ List Nat)} {n : Nat} {f : Nat → Nat} (h : ∀ (i : Nat) (s : List Nat), i < n → s.length = i → T ((i : Int), s) = some (.inl (((i + 1 : Nat) : Int), s ++ [f i])))
    (he : ∀ s : List Nat, T ((n : Int), s) = some (.inr s)) : whileM T ((0 : Int), []) = some ((List.range n).map f) := by
  refine whileM_fix (T := T) (n := n) (r := (List.range n).map f) (fun i => ((i : Int), (List.range i).map f)) ?_ (he _)
  intro i hi
  rw [h i _ hi (by simp), List.range_succ, List.map_append]; rfl
end Go.Proofs.Ytimlecagkbbnpaa.AM
