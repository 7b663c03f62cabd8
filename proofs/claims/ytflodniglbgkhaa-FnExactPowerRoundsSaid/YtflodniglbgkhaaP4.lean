/- Least squares by mirrors. -/
import Derived.Test.YtflodniglbgkhaaP3
set_option linter.unusedSimpArgs false
set_option linter.unusedVariables false
namespace Go.Proofs.Ytflodniglbgkhaa.AM

theorem ord_comm (a b : Ieee.Datum) : (a.order b == some .eq) = (b.order a == some .eq) := by
  cases a with
  | nan => cases b <;> rfl
  | infinity s =>
    cases b with
    | nan => rfl
    | infinity t => cases s <;> cases t <;> rfl
    | number t n j => cases s <;> rfl
  | number s m i =>
    cases b with
    | nan => rfl
    | infinity t => cases t <;> rfl
    | number t n j =>
      simp only [Ieee.Datum.order]
      rw [Int.min_comm j i, Bool.eq_iff_iff]
      simp only [beq_iff_eq, Option.some.injEq, Int.compare_eq_eq]
      exact eq_comm
theorem feq_comm (k : FloatKind) (x y : Nat) : feq k x y = feq k y x := by
  unfold feq Ieee.Format.order
  exact ord_comm _ _
/-- A sum that goes on from a number is had. -/
theorem acc_gen {T : Nat × Int → Option ((Nat × Int) ⊕ Nat)} {n : Nat} (h : ∀ (k s : Nat), k < n → ∃ s', T (s, (k : Int)) = some (.inl (s', ((k + 1 : Nat) : Int)))) (he : ∀ (k s : Nat), n ≤ k → T (s, (k : Int)) = some (.inr s)) :
    ∀ (a s : Nat), ∃ y, whileM T (s, (a : Int)) = some y := by
  have key : ∀ (d a s : Nat), n ≤ a + d → ∃ y, whileM T (s, (a : Int)) = some y := by
    intro d
    induction d with
    | zero => intro a s ha; exact ⟨s, by rw [whileM_eq, he a s (by omega)]⟩
    | succ d ih =>
      intro a s ha
      by_cases hk : a < n
      · obtain ⟨s', h1⟩ := h a s hk
        obtain ⟨y, hy⟩ := ih (a + 1) s' (by omega)
        exact ⟨y, by rw [whileM_eq, h1]; exact hy⟩
      · exact ⟨s, by rw [whileM_eq, he a s (by omega)]⟩
  exact fun a s => key n a s (by omega)
theorem isVecI (xs : List Nat) (h : xs.length ≤ maxN) : impl_IsVector_g xs = some (decide ((1 : Int) ≤ xs.length) && decide ((xs.length : Int) ≤ 256) && xs.all sfin) := by
  simp only [impl_IsVector_g, impl_IsVector_T, Tree.run, inR, impl_lengthF_v, areFin xs h, Option.bind_some]
  cases (decide ((1 : Int) ≤ (xs.length : Int)) && decide ((xs.length : Int) ≤ 256)) <;> simp
theorem isVecS (xs : List Nat) (h : xs.length ≤ maxN) : spec_l02Vector_g xs = some (decide ((1 : Int) ≤ xs.length) && decide ((xs.length : Int) ≤ 256) && xs.all sfin) := by
  simp only [spec_l02Vector_g, spec_l02Vector_T, Tree.run, finiteS xs h, Option.bind_some]
  generalize xs.all sfin = z
  by_cases a1 : (1 : Int) ≤ (xs.length : Int) <;> by_cases a2 : (xs.length : Int) ≤ 256 <;> simp [a1, a2]
theorem whileM_inl {σ ρ : Type} {T : σ → Option (σ ⊕ ρ)} {s s' : σ} {r : Option ρ} (h : T s = some (.inl s')) (h' : whileM T s' = r) : whileM T s = r := by rw [whileM_eq, h]; exact h'
theorem whileM_inr {σ ρ : Type} {T : σ → Option (σ ⊕ ρ)} {s : σ} {r : ρ} (h : T s = some (.inr r)) : whileM T s = some r := by rw [whileM_eq, h]
def midL (n : Nat) (M : List Nat) : List Nat := (List.range n).map fun i => nth M (i * n + i)
/-- The right side, turned. -/
noncomputable def rightL (n m : Nat) (q b : List Nat) : List Nat := (List.range m).map fun k => dotN (fun i => fmul .f32 (nth q (i * m + k)) (nth b i)) n
def flipL (n m : Nat) (q : List Nat) : List Nat := rc m n fun i k => nth q (k * m + i)
theorem rightI {n m : Nat} {q b : List Nat} (h1 : 1 ≤ n) (hn : n ≤ 12) (hm : m ≤ 12) (hq : q.length = n * m) (hb : b.length = n) : impl_Matrix_timesVector_g m n (flipL n m q) b = some (rightL n m q b) := by
  have hl : (flipL n m q).length = m * n := by simp [flipL]
  have hb2 := le144 hm hn
  rw [timesI m n (flipL n m q) b hl hb (by unfold maxN; omega) (by unfold maxN; omega) (by unfold maxN; omega) h1]
  congr 1
  unfold timesL rightL
  refine List.map_congr_left fun k hk => ?_
  have hk := List.mem_range.1 hk
  refine dotN_congr n fun i hi => ?_
  have := rowL_nth hk hi hl
  unfold rowL at this
  rw [this]
  unfold flipL
  rw [rc_nth _ hk hi]
end Go.Proofs.Ytflodniglbgkhaa.AM
