/- The law LowerOf: both sides, and the law. -/
import Derived.Test.YtjadfgeemfdbmaaFA0
set_option linter.unusedSimpArgs false
set_option linter.unusedVariables false
set_option maxHeartbeats 1000000
namespace Go.Proofs.Ytjadfgeemfdbmaa.AM

def lowL (n : Nat) (M : List Nat) : List Nat := rc n n fun i k => if i = k then 1065353216 else if i < k then 0 else nth M (i * n + k)
@[simp] theorem lowL_length (n : Nat) (M : List Nat) : (lowL n M).length = n * n := by simp [lowL]
theorem lowI {n : Nat} {M : List Nat} {xs : List Int} (hn : n ≤ 12) (hM : M.length = n * n) : impl_made_g n n n n M xs = some ((n : Int), (n : Int), lowL n M) := by
  have : impl_made_l0_g n n n n M xs n n ((0 : Int), List.replicate (n * n) 0) = some (lowL n M) := by
    refine made_gen (T0 := fun s => (impl_made_l0_T n n n n M xs n n s).run) (T2 := fun i s => (impl_made_l2_T n n M i n n s).run) (n := n) (m := n) ?_ ?_ ?_ ?_
    · intro i k s hi hk hs
      have hc : impl_LowerOf_1_g (i : Int) (k : Int) n M = some (if i = k then 1065353216 else if i < k then 0 else nth M (i * n + k)) := by
        simp only [impl_LowerOf_1_g, impl_LowerOf_1_T, Tree.run, lt_nat, atI hi hk hn hn hM, Option.bind_some, decide_eq_true_eq, Int.ofNat_inj]
        split
        · rfl
        · split <;> rfl
      simp only [impl_made_l2_T, Tree.run, lt_nat, hk, decide_true, if_true, hc, setR hi hk hn hn hs, Option.bind_some, atw hi hk hn hn, Int.toNat_natCast, List.length_set, w1 (show k ≤ 1000 by omega)]
    · intro i s hi; simp [impl_made_l2_T, Tree.run]
    · intro i s s' hi h
      have h' : impl_made_l2_g n n M i n n ((0 : Int), s) = some s' := h
      simp only [impl_made_l0_T, Tree.run, lt_nat, hi, decide_true, if_true, h', Option.bind_some, w1 (show i ≤ 1000 by omega)]
    · intro s; simp [impl_made_l0_T, Tree.run]
  simp only [impl_made_g, impl_made_T, Tree.run, newR hn hn, mulw hn hn, Int.toNat_natCast, this, Option.bind_some, if_true]
theorem lowS {n : Nat} {M : List Nat} {xs : List Int} (hn : n ≤ 12) (hM : M.length = n * n) : spec_LowerOf_l0_g n n M xs n n ((0 : Int), unitL n) = some (lowL n M) := by
  have row : ∀ (i : Nat) (s : List Nat), i < n → s.length = n * n → ∃ s', spec_LowerOf_l2_g n M (i : Int) n n ((0 : Int), s) = some s' ∧ s'.length = n * n ∧ ∀ j l, j < n → l < n → nth s' (j * n + l) = if j = i ∧ l < i then nth M (j * n + l) else nth s (j * n + l) := by
    intro i s hi hs
    have key : ∀ (d k : Nat) (s : List Nat), k + d = i → s.length = n * n → ∃ s', spec_LowerOf_l2_g n M (i : Int) n n ((k : Int), s) = some s' ∧ s'.length = n * n ∧ ∀ j l, j < n → l < n → nth s' (j * n + l) = if j = i ∧ k ≤ l ∧ l < i then nth M (j * n + l) else nth s (j * n + l) := by
      intro d
      induction d with
      | zero =>
        intro k s hk hs
        refine ⟨s, whileM_inr (T := fun s => (spec_LowerOf_l2_T n M (i : Int) n n s).run) (by simp [spec_LowerOf_l2_T, Tree.run]; omega), hs, fun j l hj hl => ?_⟩
        rw [if_neg (by omega)]
      | succ d ih =>
        intro k s hk hs
        have hki : k < i := by omega
        have hkn : k < n := by omega
        have hlt : i * n + k < s.length := by rw [hs]; exact rc_lt hi hkn
        obtain ⟨s', g1, g2, g3⟩ := ih (k + 1) (s.set (i * n + k) (nth M (i * n + k))) (by omega) (by simp [hs])
        refine ⟨s', whileM_inl (T := fun s => (spec_LowerOf_l2_T n M (i : Int) n n s).run) ?_ g1, g2, fun j l hj hl => ?_⟩
        · simp only [spec_LowerOf_l2_T, Tree.run, lt_nat, hki, decide_true, if_true, atS hi hkn hn hn hM, Option.bind_some, atw hi hkn hn hn, inb_nat, hlt, Int.toNat_natCast, w1 (show k ≤ 1000 by omega)]
        · rw [g3 j l hj hl, set_sub hlt]
          by_cases h1 : j = i ∧ k + 1 ≤ l ∧ l < i
          · rw [if_pos h1, if_pos (by omega)]
          · rw [if_neg h1]
            by_cases h2 : i * n + k = j * n + l
            · obtain ⟨e1, e2⟩ := rc_inj hkn hl h2
              rw [if_pos h2, if_pos (by omega), h2]
            · rw [if_neg h2]
              rw [if_neg]
              rintro ⟨e1, e2, e3⟩
              subst e1
              apply h1
              refine ⟨rfl, ?_, e3⟩
              rcases Nat.lt_or_eq_of_le e2 with h | h
              · exact h
              · subst h; exact absurd rfl h2
    obtain ⟨s', g1, g2, g3⟩ := key i 0 s (by omega) hs
    exact ⟨s', g1, g2, fun j l hj hl => by rw [g3 j l hj hl]; simp⟩
  have all : ∀ (d i : Nat) (s : List Nat), i + d = n → s.length = n * n → ∃ s', spec_LowerOf_l0_g n n M xs n n ((i : Int), s) = some s' ∧ s'.length = n * n ∧ ∀ j l, j < n → l < n → nth s' (j * n + l) = if i ≤ j ∧ l < j then nth M (j * n + l) else nth s (j * n + l) := by
    intro d
    induction d with
    | zero =>
      intro i s hi hs
      refine ⟨s, whileM_inr (T := fun s => (spec_LowerOf_l0_T n n M xs n n s).run) (by simp [spec_LowerOf_l0_T, Tree.run]; omega), hs, fun j l hj hl => ?_⟩
      rw [if_neg (by omega)]
    | succ d ih =>
      intro i s hi hs
      have hin : i < n := by omega
      obtain ⟨s1, r1, r2, r3⟩ := row i s hin hs
      obtain ⟨s', g1, g2, g3⟩ := ih (i + 1) s1 (by omega) r2
      refine ⟨s', whileM_inl (T := fun s => (spec_LowerOf_l0_T n n M xs n n s).run) ?_ g1, g2, fun j l hj hl => ?_⟩
      · simp only [spec_LowerOf_l0_T, Tree.run, lt_nat, hin, decide_true, if_true, r1, Option.bind_some, w1 (show i ≤ 1000 by omega)]
      · rw [g3 j l hj hl, r3 j l hj hl]
        by_cases h1 : i + 1 ≤ j ∧ l < j
        · rw [if_pos h1, if_pos (by omega)]
        · rw [if_neg h1]
          by_cases h2 : j = i ∧ l < i
          · rw [if_pos h2, if_pos (by omega)]
          · rw [if_neg h2, if_neg (by omega)]
  obtain ⟨s', g1, g2, g3⟩ := all n 0 (unitL n) (by omega) (by simp)
  have he : s' = lowL n M := rc_ext g2 fun i k hi hk => by
    rw [g3 i k hi hk]
    by_cases h : k < i
    · rw [if_pos ⟨by omega, h⟩, if_neg (by omega), if_neg (by omega)]
    · rw [if_neg (by omega)]
      unfold unitL
      rw [rc_nth _ hi hk]
      by_cases e : i = k
      · rw [if_pos e, if_pos e]
      · rw [if_neg e, if_neg e, if_pos (by omega)]
  rw [he] at g1
  exact g1
theorem lo_both (x0 x1 : Int) (x2 : List Nat) (x3 : List Int) (h2 : x2.length ≤ maxN) (h3 : x3.length ≤ maxN) :
    ∃ r, impl_LowerOf_g x0 x1 x2 x3 = some r ∧ spec_LowerOf_g x0 x1 x2 x3 = some r ∧ ∀ d, r = .inr d → d.2.2.length ≤ 144 := by
  have vI := facI x0 x1 x2 x3 h2
  have vS := facS x0 x1 x2 x3 h2
  cases hv : facB x0 x1 x2 x3 with
  | false =>
    rw [hv] at vI vS
    exact ⟨.inl (), by simp only [impl_LowerOf_g, impl_LowerOf_T, Tree.run, vI, Option.bind_some, Bool.not_false, if_true], by simp only [spec_LowerOf_g, spec_LowerOf_T, Tree.run, vS, Option.bind_some, Bool.not_false, if_true], fun d h => by cases h⟩
  | true =>
    rw [hv] at vI vS
    obtain ⟨n, rfl, rfl, n1, n2, hl, _⟩ := fac_shape hv
    have uS := unitS n2
    have lS := lowS (xs := x3) n2 hl
    refine ⟨.inr ((n : Int), (n : Int), lowL n x2), ?_, ?_, fun d h => ?_⟩
    · simp only [impl_LowerOf_g, impl_LowerOf_T, Tree.run, vI, lowI n2 hl, Option.bind_some, Bool.not_true, Bool.false_eq_true, if_false]
    · simp only [spec_LowerOf_g, spec_LowerOf_T, Tree.run, vS, uS, lS, Option.bind_some, Bool.not_true, Bool.false_eq_true, if_false, if_true]
    · cases h
      have := le144 n2 n2
      simp only [lowL_length]; omega
theorem lo_law (x0 : Int) (x1 : Int) (x2 : List Nat) (x3 : List Int) (h0 : -9223372036854775808 ≤ x0 ∧ x0 < 9223372036854775808) (h1 : -9223372036854775808 ≤ x1 ∧ x1 < 9223372036854775808) (h2 : x2.length ≤ maxN) (h3 : x3.length ≤ maxN) : laws_FnExactLowerOf_g x0 x1 x2 x3 = some true := by
  have q2 := h2
  have q3 := h3
  unfold maxN at q2 q3
  obtain ⟨r, i1, i2, i3⟩ := lo_both x0 x1 x2 x3 h2 h3
  have enM := eqM_self 0 0 [] (by simp [maxN])
  have hnM := heldM_nil 1 (by omega) (by omega)
  have m0 := markFa_ok x2 x3 (1) h2 h3 (by omega) (by omega)
  have g1 : decide (((1 : Int) + x2.length + x3.length : Int) < 0) = false := by simp; omega
  cases z0 : decide (laws_szFactor_v x2 x3 (1048576) < 0)
  case true => simp only [laws_FnExactLowerOf_g, laws_FnExactLowerOf_T, Tree.run, z0, decide_false, Bool.false_eq_true, if_false, if_true] <;> simp [Tree.run, z0]
  cases r with
  | inl u =>
    simp only [laws_FnExactLowerOf_g, laws_FnExactLowerOf_T, Tree.run, i1, i2, enM, hnM, markM_nil, m0, toFa_ok x0 x1 x2 x3 h2 h3, eqFa_self x0 x1 x2 x3 h2 h3, g1, z0, Option.bind_some, Bool.false_eq_true, if_false, if_true, decide_true, Bool.not_true, Bool.not_false, beq_self_eq_true, marks_length, marksI_length]
    first | done | simp [Tree.run]
  | inr d =>
    obtain ⟨a0, b0, d0_⟩ := d
    have hd := i3 _ rfl
    simp only at hd
    have e0 := hd
    have hd0 : d0_.length ≤ maxN := by unfold maxN; omega
    have md0 := markM_ok d0_ (1) hd0 (by omega) (by omega)
    have hl0 := heldM_ok (1) d0_.length hd0 (by omega) (by omega)
    have g20 : decide (((1 : Int) + d0_.length : Int) < 0) = false := by simp; omega
    simp only [laws_FnExactLowerOf_g, laws_FnExactLowerOf_T, Tree.run, i1, i2, enM, hnM, markM_nil, m0, toFa_ok x0 x1 x2 x3 h2 h3, eqFa_self x0 x1 x2 x3 h2 h3, g1, z0, md0, hl0, g20, eqM_self a0 b0 d0_ hd0, Option.bind_some, Bool.false_eq_true, if_false, if_true, decide_true, Bool.not_true, Bool.not_false, beq_self_eq_true, marks_length, marksI_length]
    first | done | simp [Tree.run]
theorem lo_lawL (x0 : Int) (x1 : Int) (x2 : Nat) (x3 : Nat) (h0 : -9223372036854775808 ≤ x0 ∧ x0 < 9223372036854775808) (h1 : -9223372036854775808 ≤ x1 ∧ x1 < 9223372036854775808) (h2 : x2 < 9223372036854775808) (h3 : x3 < 9223372036854775808) (big : maxN < x2 ∨ maxN < x3) : laws_FnExactLowerOf_len_g x2 x3 = some true := by
  have big0 := big
  unfold maxN at big
  have e : decide (laws_szFactor_len_v x2 x3 (1048576) < 0) = true := szFa_len x2 x3 (1048576) h2 h3 (by omega) (by omega) (by unfold maxN; omega)
  simp [laws_FnExactLowerOf_len_g, laws_FnExactLowerOf_len_T, Tree.run, e]
end Go.Proofs.Ytjadfgeemfdbmaa.AM
