/- The factor with a middle. -/
import Derived.Test.YtooakheodgndaaaP5
set_option linter.unusedSimpArgs false
set_option linter.unusedVariables false
namespace Go.Proofs.Ytooakheodgndaaa.AM

def unitL (n : Nat) : List Nat := rc n n fun i k => if i = k then 1065353216 else 0
@[simp] theorem unitL_length (n : Nat) : (unitL n).length = n * n := by simp [unitL]
theorem unitS {n : Nat} (hn : n ≤ 12) : spec_l02Unit_g n = some ((n : Int), (n : Int), unitL n) := by
  have all : ∀ (d i : Nat) (s : List Nat), i + d = n → s.length = n * n → ∃ s', spec_l02Unit_l0_g n n n ((i : Int), s) = some s' ∧ s'.length = n * n ∧ ∀ j l, j < n → l < n → nth s' (j * n + l) = if i ≤ j ∧ j = l then 1065353216 else nth s (j * n + l) := by
    intro d
    induction d with
    | zero =>
      intro i s hi hs
      refine ⟨s, whileM_inr (T := fun s => (spec_l02Unit_l0_T n n n s).run) (by simp [spec_l02Unit_l0_T, Tree.run]; omega), hs, fun j l hj hl => ?_⟩
      rw [if_neg (by omega)]
    | succ d ih =>
      intro i s hi hs
      have hin : i < n := by omega
      have hlt : i * n + i < s.length := by rw [hs]; exact rc_lt hin hin
      obtain ⟨s', g1, g2, g3⟩ := ih (i + 1) (s.set (i * n + i) 1065353216) (by omega) (by simp [hs])
      refine ⟨s', whileM_inl (T := fun s => (spec_l02Unit_l0_T n n n s).run) ?_ g1, g2, fun j l hj hl => ?_⟩
      · simp only [spec_l02Unit_l0_T, Tree.run, lt_nat, hin, decide_true, if_true, atw hin hin hn hn, inb_nat, hlt, Int.toNat_natCast, w1 (show i ≤ 1000 by omega)]
      · rw [g3 j l hj hl, set_sub hlt]
        by_cases h1 : i + 1 ≤ j ∧ j = l
        · rw [if_pos h1, if_pos (by omega)]
        · rw [if_neg h1]
          by_cases h2 : i * n + i = j * n + l
          · obtain ⟨e1, e2⟩ := rc_inj hin hl h2
            rw [if_pos h2, if_pos (by omega)]
          · rw [if_neg h2, if_neg]
            rintro ⟨e1, e2⟩
            subst e2
            apply h1
            refine ⟨?_, rfl⟩
            rcases Nat.lt_or_eq_of_le e1 with h | h
            · exact h
            · subst h; exact absurd rfl h2
  obtain ⟨s', g1, g2, g3⟩ := all n 0 (List.replicate (n * n) 0) (by omega) (by simp)
  have he : s' = unitL n := rc_ext g2 fun i k hi hk => by
    rw [g3 i k hi hk]
    have : nth (List.replicate (n * n) 0) (i * n + k) = 0 := by
      rw [nth_of _ _ (by simpa using rc_lt hi hk)]; simp
    rw [this]; simp
  rw [he] at g1
  have g1' : spec_l02Unit_l0_g n n n ((0 : Int), List.replicate (n * n) 0) = some (unitL n) := g1
  simp only [spec_l02Unit_g, spec_l02Unit_T, Tree.run, zeroS hn hn, mulw hn hn, Int.toNat_natCast, g1', Option.bind_some, if_true]
theorem unitI {n : Nat} (hn : n ≤ 12) : impl_unit_g n = some ((n : Int), (n : Int), unitL n) := by
  have : impl_made_l0_g n n n n ((0 : Int), List.replicate (n * n) 0) = some (unitL n) := by
    refine made_gen (T0 := fun s => (impl_made_l0_T n n n n s).run) (T2 := fun i s => (impl_made_l2_T n i n n s).run) (n := n) (m := n) ?_ ?_ ?_ ?_
    · intro i k s hi hk hs
      have hc : impl_unit_1_v (i : Int) (k : Int) = if i = k then 1065353216 else 0 := by
        simp only [impl_unit_1_v, decide_eq_true_eq, Int.ofNat_inj]
      simp only [impl_made_l2_T, Tree.run, lt_nat, hk, decide_true, if_true, hc, setR hi hk hn hn hs, Option.bind_some, atw hi hk hn hn, Int.toNat_natCast, List.length_set, w1 (show k ≤ 1000 by omega)]
    · intro i s hi; simp [impl_made_l2_T, Tree.run]
    · intro i s s' hi h
      have h' : impl_made_l2_g n i n n ((0 : Int), s) = some s' := h
      simp only [impl_made_l0_T, Tree.run, lt_nat, hi, decide_true, if_true, h', Option.bind_some, w1 (show i ≤ 1000 by omega)]
    · intro s; simp [impl_made_l0_T, Tree.run]
  simp only [impl_unit_g, impl_unit_T, impl_made_g, impl_made_T, Tree.run, newR hn hn, mulw hn hn, Int.toNat_natCast, this, Option.bind_some, if_true]
theorem mdAcc {n k i : Nat} {d l : List Nat} (hk : k < n) (hi : i < n) (hn : n ≤ 12) (hl : l.length = n * n) (hd : k ≤ d.length) (s0 : Nat) : ∃ y, impl_MiddleFactor_l4_g k i n n d l (s0, (0 : Int)) = some y := by
  refine acc_gen (T := fun s => (impl_MiddleFactor_l4_T k i n n d l s).run) (n := k) (fun j s hj => ?_) (fun j s hj => ?_) 0 s0
  · refine ⟨fsub .f32 s (fmul .f32 (fmul .f32 (nth d j) (nth l (i * n + j))) (nth l (k * n + j))), ?_⟩
    simp only [impl_MiddleFactor_l4_T, impl_mul_v, Tree.run, lt_nat, hj, decide_true, if_true, inb_nat, show j < d.length by omega, atI hi (show j < n by omega) hn hn hl, atI hk (show j < n by omega) hn hn hl, Option.bind_some, Int.toNat_natCast, w1 (show j ≤ 1000 by omega)]
  · simp [impl_MiddleFactor_l4_T, Tree.run]; omega
theorem mdRest {n k : Nat} {A d : List Nat} (hk : k < n) (hn : n ≤ 12) (hA : A.length = n * n) (hd : d.length = k + 1) : ∀ (r i : Nat) (l : List Nat), i + r = n → k < i → l.length = n * n →
    ∃ l', impl_MiddleFactor_l2_g n n A k n n ((i : Int), d, l) = some (.inr (d, l')) ∧ spec_MiddleFactor_l4_g n n A k (nth d k) n n d ((i : Int), l) = some l' ∧ l'.length = n * n := by
  intro r
  induction r with
  | zero =>
    intro i l hi hki hl
    have : i = n := by omega
    subst this
    exact ⟨l, whileM_inr (T := fun s => (impl_MiddleFactor_l2_T i i A k i i s).run) (by simp [impl_MiddleFactor_l2_T, Tree.run]), whileM_inr (T := fun s => (spec_MiddleFactor_l4_T i i A k (nth d k) i i d s).run) (by simp [spec_MiddleFactor_l4_T, Tree.run]), hl⟩
  | succ r ih =>
    intro i l hi hki hl
    have hin : i < n := by omega
    obtain ⟨y, hy⟩ := mdAcc (d := d) hk hin hn hl (by omega) (nth A (i * n + k))
    have hyS : spec_MiddleFactor_l6_g k (nth d k) i n n d l (nth A (i * n + k), (0 : Int)) = some y := hy
    have hlt : i * n + k < l.length := by rw [hl]; exact rc_lt hin hk
    have hdk : decide (k < d.length) = true := by simp; omega
    obtain ⟨l', g1, g2, g3⟩ := ih (i + 1) (l.set (i * n + k) (fdiv .f32 y (nth d k))) (by omega) (by omega) (by simp [hl])
    refine ⟨l', whileM_inl (T := fun s => (impl_MiddleFactor_l2_T n n A k n n s).run) ?_ g1, whileM_inl (T := fun s => (spec_MiddleFactor_l4_T n n A k (nth d k) n n d s).run) ?_ g2, g3⟩
    · simp only [impl_MiddleFactor_l2_T, Tree.run, lt_nat, hin, decide_true, if_true, atI hin hk hn hn hA, hy, hki, inb_nat, hdk, setR hin hk hn hn hl, atw hin hk hn hn, Option.bind_some, Int.toNat_natCast, List.length_set, w1 (show i ≤ 1000 by omega)]
    · simp only [spec_MiddleFactor_l4_T, Tree.run, lt_nat, hin, decide_true, if_true, atS hin hk hn hn hA, hyS, inb_nat, hlt, atw hin hk hn hn, Option.bind_some, Int.toNat_natCast, w1 (show i ≤ 1000 by omega)]
theorem mdMain {n : Nat} {A : List Nat} (hn : n ≤ 12) (hA : A.length = n * n) : ∀ (t k : Nat) (d l : List Nat), k + t = n → d.length = k → l.length = n * n →
    ∃ o : Unit ⊕ (List Nat × List Nat), impl_MiddleFactor_l0_g n n A n n ((k : Int), d, l) = some o ∧ (∀ z, o = .inr z → z.1.length = n ∧ z.2.length = n * n ∧ (z.1.all sfin = true → d.all sfin = true)) ∧
      (d.all sfin = true → spec_MiddleFactor_l0_g n n A n n ((k : Int), d, l) = some (match o with | .inl _ => .inl () | .inr z => if z.1.all sfin = true then .inr z else .inl ())) := by
  intro t
  induction t with
  | zero =>
    intro k d l hk hd hl
    have : k = n := by omega
    subst this
    refine ⟨.inr (d, l), whileM_inr (T := fun s => (impl_MiddleFactor_l0_T k k A k k s).run) (by simp [impl_MiddleFactor_l0_T, Tree.run]), fun z h => by cases h; exact ⟨hd, hl, id⟩, fun hf => ?_⟩
    simp only [hf, if_true]
    exact whileM_inr (T := fun s => (spec_MiddleFactor_l0_T k k A k k s).run) (by simp [spec_MiddleFactor_l0_T, Tree.run])
  | succ t ih =>
    intro k d l hk hd hl
    have hkn : k < n := by omega
    obtain ⟨y, hy⟩ := mdAcc (d := d) hkn hkn hn hl (by omega) (nth A (k * n + k))
    have hyS : spec_MiddleFactor_l2_g k n n d l (nth A (k * n + k), (0 : Int)) = some y := hy
    cases hz : feq .f32 y 0 with
    | true =>
      have g2 : impl_MiddleFactor_l2_g n n A k n n ((k : Int), d, l) = some (.inl ()) := whileM_inr (T := fun s => (impl_MiddleFactor_l2_T n n A k n n s).run) (by
        simp only [impl_MiddleFactor_l2_T, Tree.run, lt_nat, hkn, decide_true, if_true, atI hkn hkn hn hn hA, hy, Nat.lt_irrefl, decide_false, Bool.false_eq_true, if_false, hz, Option.bind_some])
      refine ⟨.inl (), whileM_inr (T := fun s => (impl_MiddleFactor_l0_T n n A n n s).run) ?_, fun z h => (by cases h), fun hf => whileM_inr (T := fun s => (spec_MiddleFactor_l0_T n n A n n s).run) ?_⟩
      · simp only [impl_MiddleFactor_l0_T, Tree.run, lt_nat, hkn, decide_true, if_true, g2, Option.bind_some]
      · simp only [spec_MiddleFactor_l0_T, Tree.run, lt_nat, hkn, decide_true, if_true, atS hkn hkn hn hn hA, hyS, hz, Option.bind_some]
    | false =>
      have hd' : (d ++ [y]).length = k + 1 := by simp [hd]
      have hnd : nth (d ++ [y]) k = y := by rw [nth_of _ _ (by omega)]; simp [hd]
      have hfit : fits (d ++ [y]).length = true := fitsN (by omega)
      obtain ⟨l', r1, r2, r3⟩ := mdRest (A := A) (d := d ++ [y]) hkn hn hA hd' (n - (k + 1)) (k + 1) l (by omega) (by omega) hl
      rw [hnd] at r2
      have g2 : impl_MiddleFactor_l2_g n n A k n n ((k : Int), d, l) = some (.inr (d ++ [y], l')) := whileM_inl (T := fun s => (impl_MiddleFactor_l2_T n n A k n n s).run) (by
        simp only [impl_MiddleFactor_l2_T, Tree.run, lt_nat, hkn, decide_true, if_true, atI hkn hkn hn hn hA, hy, Nat.lt_irrefl, decide_false, Bool.false_eq_true, if_false, hz, hfit, Option.bind_some, w1 (show k ≤ 1000 by omega)]) r1
      obtain ⟨o, i1, i2, i3⟩ := ih (k + 1) (d ++ [y]) l' (by omega) hd' r3
      refine ⟨o, whileM_inl (T := fun s => (impl_MiddleFactor_l0_T n n A n n s).run) ?_ i1, fun z h => ?_, fun hf => ?_⟩
      · simp only [impl_MiddleFactor_l0_T, Tree.run, lt_nat, hkn, decide_true, if_true, g2, Option.bind_some, w1 (show k ≤ 1000 by omega)]
      · obtain ⟨z1, z2, z3⟩ := i2 z h
        refine ⟨z1, z2, fun hz => ?_⟩
        have := z3 hz
        rw [List.all_append, Bool.and_eq_true] at this
        exact this.1
      · cases hs : sfin y with
        | false =>
          refine (whileM_inr (T := fun s => (spec_MiddleFactor_l0_T n n A n n s).run) (r := .inl ()) ?_).trans ?_
          · simp only [spec_MiddleFactor_l0_T, Tree.run, lt_nat, hkn, decide_true, if_true, atS hkn hkn hn hn hA, hyS, hz, finS, hs, Bool.not_false, Bool.false_eq_true, if_false, Option.bind_some]
          · cases o with
            | inl u => rfl
            | inr z =>
              have : ¬ z.1.all sfin = true := fun h => by
                have := (i2 z rfl).2.2 h
                rw [List.all_append, Bool.and_eq_true] at this
                simp [hs] at this
              simp only [this, if_false]
              rfl
        | true =>
          refine whileM_inl (T := fun s => (spec_MiddleFactor_l0_T n n A n n s).run) ?_ (i3 (by rw [List.all_append, hf]; simp [hs]))
          simp only [spec_MiddleFactor_l0_T, Tree.run, lt_nat, hkn, decide_true, if_true, atS hkn hkn hn hn hA, hyS, hz, finS, hs, Bool.not_true, Bool.false_eq_true, if_false, hfit, r2, Option.bind_some, w1 (show k ≤ 1000 by omega)]
theorem md_both (r c : Int) (x : List Nat) (hx : x.length ≤ maxN) : ∃ o, impl_MiddleFactor_g r c x = some o ∧ spec_MiddleFactor_g r c x = some o ∧ ∀ d, o = .inr d → d.2.2.1.length ≤ 144 ∧ d.2.2.2.length ≤ 144 := by
  have qI := sqI r c x hx
  have qS := sqS r c x hx
  cases hv : (vm r c x && decide (r = c)) with
  | false =>
    rw [hv] at qI qS
    exact ⟨.inl (), by simp [impl_MiddleFactor_g, impl_MiddleFactor_T, Tree.run, qI], by simp [spec_MiddleFactor_g, spec_MiddleFactor_T, Tree.run, qS], fun d h => by cases h⟩
  | true =>
  rw [hv] at qI qS
  simp only [Bool.and_eq_true, decide_eq_true_eq] at hv
  obtain ⟨hv, rfl⟩ := hv
  obtain ⟨n, m, rfl, e, a1, a2, a3, a4, a5, a6⟩ := vm_shape hv
  have e : n = m := by omega
  subst e
  have hb2 := le144 a2 a2
  obtain ⟨o, g1, g2, g3⟩ := mdMain a2 a5 n 0 [] (unitL n) (by omega) rfl (by simp)
  have g1 : impl_MiddleFactor_l0_g n n x n n ((0 : Int), ([] : List Nat), unitL n) = some o := g1
  have g3 : spec_MiddleFactor_l0_g n n x n n ((0 : Int), ([] : List Nat), unitL n) = _ := g3 rfl
  cases o with
  | inl u =>
    refine ⟨.inl (), ?_, ?_, fun d h => by cases h⟩
    · simp only [impl_MiddleFactor_g, impl_MiddleFactor_T, Tree.run, qI, unitI a2, g1, Option.bind_some, Bool.not_true, Bool.false_eq_true, if_false, if_true]
    · simp only [spec_MiddleFactor_g, spec_MiddleFactor_T, Tree.run, qS, unitS a2, g3, Option.bind_some, Bool.not_true, Bool.false_eq_true, if_false, if_true]
  | inr z =>
    obtain ⟨d, l⟩ := z
    obtain ⟨z1, z2, _⟩ := g2 _ rfl
    simp only at z1 z2 g3
    have v1 := vmI n n l (by unfold maxN; omega)
    have v2 := vmS n n l (by unfold maxN; omega)
    rw [vm_nat a1 a2 a1 a2 z2] at v1 v2
    have fI := areFin d (by unfold maxN; omega)
    refine ⟨if l.all sfin && d.all sfin then .inr ((n : Int), (n : Int), l, d) else .inl (), ?_, ?_, ?_⟩
    · simp only [impl_MiddleFactor_g, impl_MiddleFactor_T, Tree.run, qI, unitI a2, g1, v1, fI, Option.bind_some, Bool.not_true, Bool.false_eq_true, if_false, if_true]
      cases l.all sfin <;> cases d.all sfin <;> simp
    · cases hd : d.all sfin with
      | false =>
        rw [hd] at g3
        simp only [Bool.false_eq_true, if_false] at g3
        simp only [spec_MiddleFactor_g, spec_MiddleFactor_T, Tree.run, qS, unitS a2, g3, Option.bind_some, Bool.not_true, Bool.false_eq_true, if_false, if_true, Bool.and_false]
      | true =>
        rw [hd] at g3
        simp only [if_true] at g3
        simp only [spec_MiddleFactor_g, spec_MiddleFactor_T, Tree.run, qS, unitS a2, g3, v2, Option.bind_some, Bool.not_true, Bool.false_eq_true, if_false, if_true, Bool.and_true]
        cases l.all sfin <;> simp
    · intro d' h'
      split at h'
      · cases h'; simp only; omega
      · cases h'
theorem md_law (x0 : Int) (x1 : Int) (x2 : List Nat) (h0 : -9223372036854775808 ≤ x0 ∧ x0 < 9223372036854775808) (h1 : -9223372036854775808 ≤ x1 ∧ x1 < 9223372036854775808) (h2 : x2.length ≤ maxN) : laws_FnExactMiddleFactor_g x0 x1 x2 = some true := by
  have q2 := h2
  unfold maxN at q2
  obtain ⟨r, i1, i2, i3⟩ := md_both x0 x1 x2 h2
  have en := eqF_self [] (by simp [maxN])
  have hn := held_nil 1 (by omega) (by omega)
  have enM := eqM_self 0 0 [] (by simp [maxN])
  have hnM := heldM_nil 1 (by omega) (by omega)
  have m2 := markM_ok x2 (1) h2 (by omega) (by omega)
  have g1 : decide (((1 : Int) + x2.length : Int) < 0) = false := by simp; omega
  cases z0 : decide (laws_szMatrix_v x2 (1048576) < 0)
  case true => simp only [laws_FnExactMiddleFactor_g, laws_FnExactMiddleFactor_T, Tree.run, z0, decide_false, Bool.false_eq_true, if_false, if_true] <;> simp [Tree.run, z0]
  cases r with
  | inl u =>
    simp only [laws_FnExactMiddleFactor_g, laws_FnExactMiddleFactor_T, Tree.run, i1, i2, en, hn, mark_nil, enM, hnM, markM_nil, m2, toM_ok x0 x1 x2 h2, eqM_self x0 x1 x2 h2, g1, z0, Option.bind_some, Bool.false_eq_true, if_false, if_true, decide_true, Bool.not_true, Bool.not_false, beq_self_eq_true, marks_length]
    first | done | simp [Tree.run]
  | inr d =>
    obtain ⟨a0, b0, d0_, d1_⟩ := d
    have hd := i3 _ rfl
    simp only at hd
    obtain ⟨e0, e1⟩ := hd
    have hd0 : d0_.length ≤ maxN := by unfold maxN; omega
    have md0 := markM_ok d0_ (1) hd0 (by omega) (by omega)
    have hl0 := heldM_ok (1) d0_.length hd0 (by omega) (by omega)
    have g20 : decide (((1 : Int) + d0_.length : Int) < 0) = false := by simp; omega
    have hd1 : d1_.length ≤ maxN := by unfold maxN; omega
    have md1 := mark_ok d1_ (1 + d0_.length) hd1 (by omega) (by omega)
    have hl1 := held_ok (1 + d0_.length) d1_.length hd1 (by omega) (by omega)
    have g21 : decide (((1 : Int) + d0_.length + d1_.length : Int) < 0) = false := by simp; omega
    simp only [laws_FnExactMiddleFactor_g, laws_FnExactMiddleFactor_T, Tree.run, i1, i2, en, hn, mark_nil, enM, hnM, markM_nil, m2, toM_ok x0 x1 x2 h2, eqM_self x0 x1 x2 h2, g1, z0, md0, hl0, g20, eqM_self a0 b0 d0_ hd0, md1, hl1, g21, eqF_self d1_ hd1, Option.bind_some, Bool.false_eq_true, if_false, if_true, decide_true, Bool.not_true, Bool.not_false, beq_self_eq_true, marks_length]
    first | done | simp [Tree.run]
theorem md_lawL (x0 : Int) (x1 : Int) (x2 : Nat) (h0 : -9223372036854775808 ≤ x0 ∧ x0 < 9223372036854775808) (h1 : -9223372036854775808 ≤ x1 ∧ x1 < 9223372036854775808) (h2 : x2 < 9223372036854775808) (big : maxN < x2) : laws_FnExactMiddleFactor_len_g x2 = some true := by
  unfold maxN at big
  by_cases k2 : (1048576 : Int) < (x2 : Int)
  · have e := szM_len1 x2 (1048576) h2 (by omega) (by omega) k2
    simp [laws_FnExactMiddleFactor_len_g, laws_FnExactMiddleFactor_len_T, Tree.run, e]
  have e2 := szM_len0 x2 (1048576) h2 (by omega) (by omega) k2
  have g2 : decide ((1048576 - (x2 : Int)) < 0) = false := by simp; omega
  omega
end Go.Proofs.Ytooakheodgndaaa.AM
