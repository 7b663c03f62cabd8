/- The factor with a middle. -/
import Derived.Test.YtooakheodgndaaaP5
set_option linter.unusedSimpArgs false
set_option linter.unusedVariables false
namespace Go.Proofs.Ytooakheodgndaaa.AM

def unitL (n : Nat) : List Nat := rc n n fun i k => if i = k then 1065353216 else 0
@[simp] theorem unitL_length (n : Nat) : (unitL n).length = n * n := by simp [unitL]
theorem unitS {n : Nat} (hn : n ≤ 12) : spec_l02Unit_g n = some ((n : Int), (n : Int), unitL n) := by
  have all : ∀ (d i : Nat) (s : List Nat), i + d = n → s.length = n * n → ∃ s', spec_l02Unit_l0_g n n n ((i : Int), s) = some s' ∧ s'.length = n * n ∧ ∀ j l, j < n → l < n → nth s' (j * n + l) = if i ≤ j ∧ j = l then 1065353216 else nth s (j * n + l) := by
    intro d
    induction d with
    | zero =>
      intro i s hi hs
      refine ⟨s, whileM_inr (T := fun s => (spec_l02Unit_l0_T n n n s).run) (by simp [spec_l02Unit_l0_T, Tree.run]; omega), hs, fun j l hj hl => ?_⟩
      rw [if_neg (by omega)]
    | succ d ih =>
      intro i s hi hs
      have hin : i < n := by omega
      have hlt : i * n + i < s.length := by rw [hs]; exact rc_lt hin hin
      obtain ⟨s', g1, g2, g3⟩ := ih (i + 1) (s.set (i * n + i) 1065353216) (by omega) (by simp [hs])
      refine ⟨s', whileM_inl (T := fun s => (spec_l02Unit_l0_T n n n s).run) ?_ g1, g2, fun j l hj hl => ?_⟩
      · simp only [spec_l02Unit_l0_T, Tree.run, lt_nat, hin, decide_true, if_true, atw hin hin hn hn, inb_nat, hlt, Int.toNat_natCast, w1 (show i ≤ 1000 by omega)]
      · rw [g3 j l hj hl, set_sub hlt]
        by_cases h1 : i + 1 ≤ j ∧ j = l
        · rw [if_pos h1, if_pos (by omega)]
        · rw [if_neg h1]
          by_cases h2 : i * n + i = j * n + l
          · obtain ⟨e1, e2⟩ := rc_inj hin hl h2
            rw [if_pos h2, if_pos (by omega)]
          · rw [if_neg h2, if_neg]
            rintro ⟨e1, e2⟩
            subst e2
            apply h1
            refine ⟨?_, rfl⟩
            rcases Nat.lt_or_eq_of_le e1 with h | h
            · exact h
            · subst h; exact absurd rfl h2
  obtain ⟨s', g1, g2, g3⟩ := all n 0 (List.replicate (n * n) 0) (by omega) (by simp)
  have he : s' = unitL n := rc_ext g2 fun i k hi hk => by
    rw [g3 i k hi hk]
    have : nth (List.replicate (n * n) 0) (i * n + k) = 0 := by
      rw [nth_of _ _ (by simpa using rc_lt hi hk)]; simp
    rw [this]; simp
  rw [he] at g1
  have g1' : spec_l02Unit_l0_g n n n ((0 : Int), List.replicate (n * n) 0) = some (unitL n) := g1
  simp only [spec_l02Unit_g, spec_l02Unit_T, Tree.run, zeroS hn hn, mulw hn hn, Int.toNat_natCast, g1', Option.bind_some, if_true]
theorem unitI {n : Nat} (hn : n ≤ 12) : impl_unit_g n = some ((n : Int), (n : Int), unitL n) := by
  have : impl_made_l0_g n n n n ((0 : Int), List.replicate (n * n) 0) = some (unitL n) := by
    refine made_gen (T0 := fun s => (impl_made_l0_T n n n n s).run) (T2 := fun i s => (impl_made_l2_T n i n n s).run) (n := n) (m := n) ?_ ?_ ?_ ?_
    · intro i k s hi hk hs
      have hc : impl_unit_1_v (i : Int) (k : Int) = if i = k then 1065353216 else 0 := by
        simp only [impl_unit_1_v, decide_eq_true_eq, Int.ofNat_inj]
      simp only [impl_made_l2_T, Tree.run, lt_nat, hk, decide_true, if_true, hc, setR hi hk hn hn hs, Option.bind_some, atw hi hk hn hn, Int.toNat_natCast, List.length_set, w1 (show k ≤ 1000 by omega)]
    · intro i s hi; simp [impl_made_l2_T, Tree.run]
    · intro i s s' hi h
      have h' : impl_made_l2_g n i n n ((0 : Int), s) = some s' := h
      simp only [impl_made_l0_T, Tree.run, lt_nat, hi, decide_true, if_true, h', Option.bind_some, w1 (show i ≤ 1000 by omega)]
    · intro s; simp [impl_made_l0_T, Tree.run]
  simp only [impl_unit_g, impl_unit_T, impl_made_g, impl_made_T, Tree.run, newR hn hn, mulw hn hn, Int.toNat_natCast, this, Option.bind_some, if_true]
end Go.Proofs.Ytooakheodgndaaa.AM
