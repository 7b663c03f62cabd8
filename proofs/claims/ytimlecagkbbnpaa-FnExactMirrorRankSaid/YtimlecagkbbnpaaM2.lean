/- Lists taken from one another, roots, columns. -/
import Derived.Test.YtimlecagkbbnpaaM1
import Derived.Test.YtimlecagkbbnpaaD19
set_option linter.unusedSimpArgs false
set_option linter.unusedVariables false
namespace Go.Proofs.Ytimlecagkbbnpaa.AM

noncomputable def lessL (q : Nat) (xs zs : List Nat) : List Nat := (List.range xs.length).map fun i => fsub .f32 (nth xs i) (fmul .f32 q (nth zs i))
@[simp] theorem lessL_len (q : Nat) (xs zs : List Nat) : (lessL q xs zs).length = xs.length := by simp [lessL]
theorem lessL_nth (q : Nat) (xs zs : List Nat) (i : Nat) (h : i < xs.length) : nth (lessL q xs zs) i = fsub .f32 (nth xs i) (fmul .f32 q (nth zs i)) := nth_map_range _ _ _ h
/-- A list turned place by place, each place by its own number. -/
theorem each_gen {T : Int × List Nat → Option ((Int × List Nat) ⊕ List Nat)} {n : Nat} {xs : List Nat} (g : Nat → Nat → Nat) (hn : xs.length = n)
    (h : ∀ (i : Nat) (s : List Nat), i < n → s.length = n → T ((i : Int), s) = some (.inl (((i + 1 : Nat) : Int), s.set i (g i (nth s i))))) (he : ∀ s : List Nat, s.length = n → T ((n : Int), s) = some (.inr s)) :
    whileM T ((0 : Int), xs) = some ((List.range n).map fun i => g i (nth xs i)) := by
  have key := whileM_for (T := T) (σ := List Nat) (n := n) (s := xs) (r := fun s => s) (fun i Y => ((i : Int), Y))
    (fun i Y => Y.set i (g i (nth Y i))) (fun i Y => Y.length = n ∧ (∀ j, j < i → j < n → nth Y j = g j (nth xs j)) ∧ ∀ j, i ≤ j → nth Y j = nth xs j) ⟨hn, fun j h => by omega, fun j _ => rfl⟩ ?_ ?_
  · obtain ⟨g1, g2, g3, g4⟩ := key
    have : iterN (fun i Y => Y.set i (g i (nth Y i))) n xs = (List.range n).map fun i => g i (nth xs i) :=
      ext_nth (by simp [g2]) fun i hi => by rw [nth_map_range _ _ _ (by omega)]; exact g3 i (by omega) (by omega)
    rw [this] at g1
    exact g1
  · rintro i Y hi ⟨hl, h1, h2⟩
    refine ⟨h i Y hi hl, by simp [hl], ?_, ?_⟩
    · intro j hj hj2
      by_cases e : i = j
      · subst e
        rw [nth_set_eq _ _ _ (by omega), h2 i (Nat.le_refl _)]
      · rw [nth_set_ne _ _ _ _ e]; exact h1 j (by omega) hj2
    · intro j hj
      rw [nth_set_ne _ _ _ _ (by omega)]; exact h2 j (by omega)
  · rintro Y ⟨hl, _⟩
    exact he Y hl
theorem rootI (x y : Nat) (h : fconv .f64 (fsqrt (wid x)) .f32 = some y) : impl_RootNumber_g x = some y := by
  have : math_Sqrt_v (wid x) = fsqrt (wid x) := rfl
  simp only [impl_RootNumber_g, impl_RootNumber_T, Tree.run, this, h, Option.bind_some]
theorem rootS (x y : Nat) (h : fconv .f64 (fsqrt (wid x)) .f32 = some y) : spec_l01Sqrt_g x = some y := by
  have : math_Sqrt_v (wid x) = fsqrt (wid x) := rfl
  simp only [spec_l01Sqrt_g, spec_l01Sqrt_T, spec_l01Narrow_g, spec_l01Narrow_T, Tree.run, this, h, Option.bind_some]
theorem col3S {n m k : Nat} {M : List Nat} (hk : k < m) (hn : n ≤ 12) (hm : m ≤ 12) (hM : M.length = n * m) : spec_l03Column_g n m M (k : Int) = some (colL n m M k) := by
  have : spec_l03Column_l0_g n m M (k : Int) ((0 : Int), ([] : List Nat)) = some (colL n m M k) := by
    refine app_gen (T := fun s => (spec_l03Column_l0_T n m M (k : Int) s).run) ?_ ?_
    · intro i s hi hs
      simp only [spec_l03Column_l0_T, Tree.run, lt_nat, hi, decide_true, if_true, atS hi hk hn hm hM, Option.bind_some, w1 (show i ≤ 1000 by omega)]
      rw [if_pos (fitsN (by simp; omega))]
    · intro s; simp [spec_l03Column_l0_T, Tree.run]
  simp only [spec_l03Column_g, spec_l03Column_T, Tree.run, this, Option.bind_some, if_true]
end Go.Proofs.Ytimlecagkbbnpaa.AM
