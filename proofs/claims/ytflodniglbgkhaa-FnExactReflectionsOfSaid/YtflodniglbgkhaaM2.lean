/- Lists taken from one another, roots, columns. -/
import Derived.Test.YtflodniglbgkhaaM1
import Derived.Test.YtflodniglbgkhaaD19
set_option linter.unusedSimpArgs false
set_option linter.unusedVariables false
namespace Go.Proofs.Ytflodniglbgkhaa.AM

noncomputable def lessL (q : Nat) (xs zs : List Nat) : List Nat := (List.range xs.length).map fun i => fsub .f32 (nth xs i) (fmul .f32 q (nth zs i))
@[simp] theorem lessL_len (q : Nat) (xs zs : List Nat) : (lessL q xs zs).length = xs.length := by simp [lessL]
theorem lessL_nth (q : Nat) (xs zs : List Nat) (i : Nat) (h : i < xs.length) : nth (lessL q xs zs) i = fsub .f32 (nth xs i) (fmul .f32 q (nth zs i)) := nth_map_range _ _ _ h
/-- A list turned place by place, each place by its own number. -/
theorem each_gen {T : Int × List Nat → Option ((Int × List Nat) ⊕ List Nat)} {n : Nat} {xs : List Nat} (g : Nat → Nat → Nat) (hn : xs.length = n)
    (h : ∀ (i : Nat) (s : List Nat), i < n → s.length = n → T ((i : Int), s) = some (.inl (((i + 1 : Nat) : Int), s.set i (g i (nth s i))))) (he : ∀ s : List Nat, s.length = n → T ((n : Int), s) = some (.inr s)) :
    whileM T ((0 : Int), xs) = some ((List.range n).map fun i => g i (nth xs i)) := by
  have key := whileM_for (T := T) (σ := List Nat) (n := n) (s := xs) (r := fun s => s) (fun i Y => ((i : Int), Y))
    (fun i Y => Y.set i (g i (nth Y i))) (fun i Y => Y.length = n ∧ (∀ j, j < i → j < n → nth Y j = g j (nth xs j)) ∧ ∀ j, i ≤ j → nth Y j = nth xs j) ⟨hn, fun j h => by omega, fun j _ => rfl⟩ ?_ ?_
  · obtain ⟨g1, g2, g3, g4⟩ := key
    have : iterN (fun i Y => Y.set i (g i (nth Y i))) n xs = (List.range n).map fun i => g i (nth xs i) :=
      ext_nth (by simp [g2]) fun i hi => by rw [nth_map_range _ _ _ (by omega)]; exact g3 i (by omega) (by omega)
    rw [this] at g1
    exact g1
  · rintro i Y hi ⟨hl, h1, h2⟩
    refine ⟨h i Y hi hl, by simp [hl], ?_, ?_⟩
    · intro j hj hj2
      by_cases e : i = j
      · subst e
        rw [nth_set_eq _ _ _ (by omega), h2 i (Nat.le_refl _)]
      · rw [nth_set_ne _ _ _ _ e]; exact h1 j (by omega) hj2
    · intro j hj
      rw [nth_set_ne _ _ _ _ (by omega)]; exact h2 j (by omega)
  · rintro Y ⟨hl, _⟩
    exact he Y hl
end Go.Proofs.Ytflodniglbgkhaa.AM
