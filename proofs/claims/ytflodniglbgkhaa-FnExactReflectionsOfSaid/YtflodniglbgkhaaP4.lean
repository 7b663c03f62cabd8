/- Least squares by mirrors. -/
import Derived.Test.YtflodniglbgkhaaP3
set_option linter.unusedSimpArgs false
set_option linter.unusedVariables false
namespace Go.Proofs.Ytflodniglbgkhaa.AM

theorem ord_comm (a b : Ieee.Datum) : (a.order b == some .eq) = (b.order a == some .eq) := by
  cases a with
  | nan => cases b <;> rfl
  | infinity s =>
    cases b with
    | nan => rfl
    | infinity t => cases s <;> cases t <;> rfl
    | number t n j => cases s <;> rfl
  | number s m i =>
    cases b with
    | nan => rfl
    | infinity t => cases t <;> rfl
    | number t n j =>
      simp only [Ieee.Datum.order]
      rw [Int.min_comm j i, Bool.eq_iff_iff]
      simp only [beq_iff_eq, Option.some.injEq, Int.compare_eq_eq]
      exact eq_comm
theorem feq_comm (k : FloatKind) (x y : Nat) : feq k x y = feq k y x := by
  unfold feq Ieee.Format.order
  exact ord_comm _ _
/-- A sum that goes on from a number is had. -/
theorem acc_gen {T : Nat × Int → Option ((Nat × Int) ⊕ Nat)} {n : Nat} (h : ∀ (k s : Nat), k < n → ∃ s', T (s, (k : Int)) = some (.inl (s', ((k + 1 : Nat) : Int)))) (he : ∀ (k s : Nat), n ≤ k → T (s, (k : Int)) = some (.inr s)) :
    ∀ (a s : Nat), ∃ y, whileM T (s, (a : Int)) = some y := by
  have key : ∀ (d a s : Nat), n ≤ a + d → ∃ y, whileM T (s, (a : Int)) = some y := by
    intro d
    induction d with
    | zero => intro a s ha; exact ⟨s, by rw [whileM_eq, he a s (by omega)]⟩
    | succ d ih =>
      intro a s ha
      by_cases hk : a < n
      · obtain ⟨s', h1⟩ := h a s hk
        obtain ⟨y, hy⟩ := ih (a + 1) s' (by omega)
        exact ⟨y, by rw [whileM_eq, h1]; exact hy⟩
      · exact ⟨s, by rw [whileM_eq, he a s (by omega)]⟩
  exact fun a s => key n a s (by omega)
theorem whileM_inl {σ ρ : Type} {T : σ → Option (σ ⊕ ρ)} {s s' : σ} {r : Option ρ} (h : T s = some (.inl s')) (h' : whileM T s' = r) : whileM T s = r := by rw [whileM_eq, h]; exact h'
theorem whileM_inr {σ ρ : Type} {T : σ → Option (σ ⊕ ρ)} {s : σ} {r : ρ} (h : T s = some (.inr r)) : whileM T s = some r := by rw [whileM_eq, h]
def midL (n : Nat) (M : List Nat) : List Nat := (List.range n).map fun i => nth M (i * n + i)
/-- The right side, turned. -/
noncomputable def rightL (n m : Nat) (q b : List Nat) : List Nat := (List.range m).map fun k => dotN (fun i => fmul .f32 (nth q (i * m + k)) (nth b i)) n
def flipL (n m : Nat) (q : List Nat) : List Nat := rc m n fun i k => nth q (k * m + i)
end Go.Proofs.Ytflodniglbgkhaa.AM
