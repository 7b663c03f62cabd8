/- Exponents of matrices: the words of both sides. -/
import Derived.Test.YtjadfgeemfdbmaaM1
import Derived.Test.YtjadfgeemfdbmaaD25
set_option linter.unusedSimpArgs false
set_option linter.unusedVariables false
set_option maxHeartbeats 1000000
namespace Go.Proofs.Ytjadfgeemfdbmaa.AM

theorem whileM_inl {σ ρ : Type} {T : σ → Option (σ ⊕ ρ)} {s s' : σ} {r : Option ρ} (h : T s = some (.inl s')) (h' : whileM T s' = r) : whileM T s = r := by rw [whileM_eq, h]; exact h'
theorem whileM_inr {σ ρ : Type} {T : σ → Option (σ ⊕ ρ)} {s : σ} {r : ρ} (h : T s = some (.inr r)) : whileM T s = some r := by rw [whileM_eq, h]
theorem set_sub {xs : List Nat} {p j : Nat} {v : Nat} (h : p < xs.length) : nth (xs.set p v) j = if p = j then v else nth xs j := by
  split
  · rename_i e; subst e; exact nth_set_eq _ _ _ h
  · rename_i e; exact nth_set_ne _ _ _ _ e
theorem rc_inj {m i k j l : Nat} (hk : k < m) (hl : l < m) (h : i * m + k = j * m + l) : i = j ∧ k = l := by
  have h1 := rc_div (i := i) hk
  have h2 := rc_div (i := j) hl
  have h3 := rc_mod (i := i) hk
  have h4 := rc_mod (i := j) hl
  rw [h] at h1 h3
  omega
theorem zeroS {n m : Nat} (hn : n ≤ 12) (hm : m ≤ 12) : spec_l02Zero_g n m = some ((n : Int), (m : Int)) := by
  have hb := le144 hn hm
  have : inb ((n * m : Nat) : Int) (maxN + 1) = true := by rw [inb_nat]; unfold maxN; simp; omega
  simp only [spec_l02Zero_g, spec_l02Zero_T, Tree.run, if_true, mulw hn hm, this]
def unitL (n : Nat) : List Nat := rc n n fun i k => if i = k then 1065353216 else 0
@[simp] theorem unitL_length (n : Nat) : (unitL n).length = n * n := by simp [unitL]
theorem unitS {n : Nat} (hn : n ≤ 12) : spec_l02Unit_g n = some ((n : Int), (n : Int), unitL n) := by
  have all : ∀ (d i : Nat) (s : List Nat), i + d = n → s.length = n * n → ∃ s', spec_l02Unit_l0_g n n n ((i : Int), s) = some s' ∧ s'.length = n * n ∧ ∀ j l, j < n → l < n → nth s' (j * n + l) = if i ≤ j ∧ j = l then 1065353216 else nth s (j * n + l) := by
    intro d
    induction d with
    | zero =>
      intro i s hi hs
      refine ⟨s, whileM_inr (T := fun s => (spec_l02Unit_l0_T n n n s).run) (by simp [spec_l02Unit_l0_T, Tree.run]; omega), hs, fun j l hj hl => ?_⟩
      rw [if_neg (by omega)]
    | succ d ih =>
      intro i s hi hs
      have hin : i < n := by omega
      have hlt : i * n + i < s.length := by rw [hs]; exact rc_lt hin hin
      obtain ⟨s', g1, g2, g3⟩ := ih (i + 1) (s.set (i * n + i) 1065353216) (by omega) (by simp [hs])
      refine ⟨s', whileM_inl (T := fun s => (spec_l02Unit_l0_T n n n s).run) ?_ g1, g2, fun j l hj hl => ?_⟩
      · simp only [spec_l02Unit_l0_T, Tree.run, lt_nat, hin, decide_true, if_true, atw hin hin hn hn, inb_nat, hlt, Int.toNat_natCast, w1 (show i ≤ 1000 by omega)]
      · rw [g3 j l hj hl, set_sub hlt]
        by_cases h1 : i + 1 ≤ j ∧ j = l
        · rw [if_pos h1, if_pos (by omega)]
        · rw [if_neg h1]
          by_cases h2 : i * n + i = j * n + l
          · obtain ⟨e1, e2⟩ := rc_inj hin hl h2
            rw [if_pos h2, if_pos (by omega)]
          · rw [if_neg h2, if_neg]
            rintro ⟨e1, e2⟩
            subst e2
            apply h1
            refine ⟨?_, rfl⟩
            rcases Nat.lt_or_eq_of_le e1 with h | h
            · exact h
            · subst h; exact absurd rfl h2
  obtain ⟨s', g1, g2, g3⟩ := all n 0 (List.replicate (n * n) 0) (by omega) (by simp)
  have he : s' = unitL n := rc_ext g2 fun i k hi hk => by
    rw [g3 i k hi hk]
    have : nth (List.replicate (n * n) 0) (i * n + k) = 0 := by
      rw [nth_of _ _ (by simpa using rc_lt hi hk)]; simp
    rw [this]; simp
  rw [he] at g1
  have g1' : spec_l02Unit_l0_g n n n ((0 : Int), List.replicate (n * n) 0) = some (unitL n) := g1
  simp only [spec_l02Unit_g, spec_l02Unit_T, Tree.run, zeroS hn hn, mulw hn hn, Int.toNat_natCast, g1', Option.bind_some, if_true]
theorem unitI {n : Nat} (hn : n ≤ 12) : impl_unit_g n = some ((n : Int), (n : Int), unitL n) := by
  have : impl_made_i1_l0_g n n n n ((0 : Int), List.replicate (n * n) 0) = some (unitL n) := by
    refine made_gen (T0 := fun s => (impl_made_i1_l0_T n n n n s).run) (T2 := fun i s => (impl_made_i1_l2_T n i n n s).run) (n := n) (m := n) ?_ ?_ ?_ ?_
    · intro i k s hi hk hs
      have hc : impl_unit_1_v (i : Int) (k : Int) = if i = k then 1065353216 else 0 := by
        simp only [impl_unit_1_v, decide_eq_true_eq, Int.ofNat_inj]
      simp only [impl_made_i1_l2_T, Tree.run, lt_nat, hk, decide_true, if_true, hc, setR hi hk hn hn hs, Option.bind_some, atw hi hk hn hn, Int.toNat_natCast, List.length_set, w1 (show k ≤ 1000 by omega)]
    · intro i s hi; simp [impl_made_i1_l2_T, Tree.run]
    · intro i s s' hi h
      have h' : impl_made_i1_l2_g n i n n ((0 : Int), s) = some s' := h
      simp only [impl_made_i1_l0_T, Tree.run, lt_nat, hi, decide_true, if_true, h', Option.bind_some, w1 (show i ≤ 1000 by omega)]
    · intro s; simp [impl_made_i1_l0_T, Tree.run]
  simp only [impl_unit_g, impl_unit_T, impl_made_i1_g, impl_made_i1_T, Tree.run, newR hn hn, mulw hn hn, Int.toNat_natCast, this, Option.bind_some, if_true]
theorem all_iff {M : List Nat} : M.all sfin = true ↔ ∀ j, j < M.length → sfin (nth M j) = true := by
  rw [List.all_eq_true]
  constructor
  · intro h j hj
    rw [nth_of _ _ hj]
    exact h _ (List.getElem_mem hj)
  · intro h x hx
    obtain ⟨j, hj, rfl⟩ := List.getElem_of_mem hx
    rw [← nth_of _ _ hj]
    exact h j hj
theorem rc_all {n : Nat} {f : Nat → Nat → Nat} : (rc n n f).all sfin = true ↔ ∀ i k, i < n → k < n → sfin (f i k) = true := by
  rw [all_iff, rc_length]
  constructor
  · intro h i k hi hk
    have := h _ (rc_lt hi hk)
    rw [rc_nth f hi hk] at this
    exact this
  · intro h p hp
    obtain ⟨q1, q2, q3⟩ := rc_of hp
    rw [← q3, rc_nth f q1 q2]
    exact h _ _ q1 q2
noncomputable def mulR (n : Nat) (A B : List Nat) : Unit ⊕ (Int × Int × List Nat) := if (A.all sfin && B.all sfin && (mulL n n n A B).all sfin) = true then .inr ((n : Int), (n : Int), mulL n n n A B) else .inl ()
section
variable {n : Nat} {A B : List Nat}
theorem mulBI (h1 : 1 ≤ n) (hn : n ≤ 12) (hA : A.length = n * n) (hB : B.length = n * n) : impl_MulMatrices_g n n A n n B = some (mulR n A B) := by
  have hb := le144 hn hn
  have eI := areFacI n n A n n B (by unfold maxN; omega) (by unfold maxN; omega)
  rw [vm_nat h1 hn h1 hn hA, vm_nat h1 hn h1 hn hB] at eI
  simp only [decide_true, Bool.and_true] at eI
  unfold mulR
  cases fA : (A.all sfin && B.all sfin) with
  | false =>
    rw [fA] at eI
    simp only [impl_MulMatrices_g, impl_MulMatrices_T, Tree.run, eI, Option.bind_some, Bool.not_false, if_true, Bool.false_and, Bool.false_eq_true, if_false]
  | true =>
    rw [fA] at eI
    have gI := mulI (q := n) h1 hn hn hn hA hB
    have hl := mulL_length n n n A B
    generalize mulL n n n A B = d at gI hl
    have kI := validR h1 hn h1 hn hl
    cases fd : d.all sfin with
    | false =>
      rw [fd] at kI
      simp only [Bool.false_eq_true, if_false] at kI
      simp only [impl_MulMatrices_g, impl_MulMatrices_T, Tree.run, eI, gI, kI, Option.bind_some, Bool.not_true, Bool.and_false, Bool.true_and, Bool.false_eq_true, if_false]
    | true =>
      rw [fd] at kI
      simp only [if_true] at kI
      simp only [impl_MulMatrices_g, impl_MulMatrices_T, Tree.run, eI, gI, kI, Option.bind_some, Bool.not_true, Bool.and_true, Bool.true_and, Bool.false_eq_true, if_false, if_true]
theorem mulBS (h1 : 1 ≤ n) (hn : n ≤ 12) (hA : A.length = n * n) (hB : B.length = n * n) : spec_MulMatrices_g n n A n n B = some (mulR n A B) := by
  have hb := le144 hn hn
  have eI := fitS n n A n n B (by unfold maxN; omega) (by unfold maxN; omega)
  rw [vm_nat h1 hn h1 hn hA, vm_nat h1 hn h1 hn hB] at eI
  simp only [decide_true, Bool.and_true] at eI
  unfold mulR
  cases fA : (A.all sfin && B.all sfin) with
  | false =>
    rw [fA] at eI
    simp only [spec_MulMatrices_g, spec_MulMatrices_T, Tree.run, eI, Option.bind_some, Bool.not_false, if_true, Bool.false_and, Bool.false_eq_true, if_false]
  | true =>
    rw [fA] at eI
    have gI := mulS (q := n) hn hn hn hA hB
    have hl := mulL_length n n n A B
    generalize mulL n n n A B = d at gI hl
    have kI := giveR h1 hn h1 hn hl
    cases fd : d.all sfin with
    | false =>
      rw [fd] at kI
      simp only [Bool.false_eq_true, if_false] at kI
      simp only [spec_MulMatrices_g, spec_MulMatrices_T, Tree.run, eI, gI, kI, Option.bind_some, Bool.not_true, Bool.and_false, Bool.true_and, Bool.false_eq_true, if_false]
    | true =>
      rw [fd] at kI
      simp only [if_true] at kI
      simp only [spec_MulMatrices_g, spec_MulMatrices_T, Tree.run, eI, gI, kI, Option.bind_some, Bool.not_true, Bool.and_true, Bool.true_and, Bool.false_eq_true, if_false, if_true]
/-! the row norm -/
def rs (A : List Nat) (n i : Nat) : Nat → Nat
  | 0 => 0
  | k + 1 => fadd .f32 (rs A n i k) (nth A (i * n + k) % 2147483648)
def rn (A : List Nat) (n : Nat) : Nat → Nat
  | 0 => 0
  | i + 1 => if fgrt .f32 (rs A n i n) (rn A n i) = true then rs A n i n else rn A n i
theorem rs_le {i : Nat} (hf : A.all sfin = true) (hA : A.length = n * n) (hi : i < n) : ∀ k, k ≤ n → rs A n i k ≤ 2139095040
  | 0, _ => by unfold rs; omega
  | k + 1, h => by
    unfold rs
    exact add_pos (rs_le hf hA hi k (by omega)) (sfin_mod (all_iff.1 hf _ (by rw [hA]; exact rc_lt hi (by omega))))
theorem rn_le (hf : A.all sfin = true) (hA : A.length = n * n) : ∀ i, i ≤ n → rn A n i ≤ 2139095040
  | 0, _ => by unfold rn; omega
  | i + 1, h => by
    unfold rn
    split
    · exact rs_le hf hA (by omega) n (Nat.le_refl _)
    · exact rn_le hf hA i (by omega)
theorem rs_bnd {i K : Nat} (hK : 1 ≤ K) (hK2 : K + 2 * n ≤ 250) (hb : ∀ j, j < n * n → nth A j % 2147483648 ≤ K * 8388608) (hi : i < n) : ∀ k, k ≤ n → rs A n i k ≤ (K + 2 * k) * 8388608
  | 0, _ => by unfold rs; omega
  | k + 1, h => by
    unfold rs
    exact add_bnd (K := K + 2 * k) (by omega) (by omega) (rs_bnd hK hK2 hb hi k (by omega)) (Nat.le_trans (hb _ (rc_lt hi (by omega))) (Nat.mul_le_mul_right _ (by omega)))
theorem rn_bnd {K : Nat} (hK : 1 ≤ K) (hK2 : K + 2 * n ≤ 250) (hb : ∀ j, j < n * n → nth A j % 2147483648 ≤ K * 8388608) : ∀ i, i ≤ n → rn A n i ≤ (K + 2 * n) * 8388608
  | 0, _ => by unfold rn; omega
  | i + 1, h => by
    unfold rn
    split
    · exact rs_bnd hK hK2 hb (by omega) n (Nat.le_refl _)
    · exact rn_bnd hK hK2 hb i (by omega)
theorem rowLI {i w : Nat} (hn : n ≤ 12) (hf : A.all sfin = true) (hA : A.length = n * n) (hi : i < n) : ∀ (d k : Nat), k + d = n → impl_Matrix_rowNorm_l2_g n A w (i : Int) (rs A n i k, (k : Int)) = some (rs A n i n) := by
  intro d
  induction d with
  | zero =>
    intro k hk
    have : k = n := by omega
    subst this
    have k0 : ¬ k < k := by omega
    refine whileM_inr (T := fun s => (impl_Matrix_rowNorm_l2_T (k : Int) A w (i : Int) s).run) ?_
    simp only [impl_Matrix_rowNorm_l2_T, Tree.run, lt_nat, k0, decide_false, Bool.false_eq_true, if_false]
  | succ d ih =>
    intro k hk
    have k0 : k < n := by omega
    have ab : impl_absolute_g (nth A (i * n + k)) = some (nth A (i * n + k) % 2147483648) := by
      simp only [impl_absolute_g, impl_absolute_T, Tree.run, (abs_any (all_iff.1 hf _ (by rw [hA]; exact rc_lt hi k0))).1, Option.bind_some]
    refine whileM_inl (T := fun s => (impl_Matrix_rowNorm_l2_T (n : Int) A w (i : Int) s).run) (s' := (rs A n i (k + 1), ((k + 1 : Nat) : Int))) ?_ (ih (k + 1) (by omega))
    simp only [impl_Matrix_rowNorm_l2_T, Tree.run, lt_nat, k0, decide_true, if_true, atI hi k0 hn hn hA, ab, Option.bind_some, w1 (show k ≤ 1000 by omega)]
    rfl
theorem rowLS {i w : Nat} (hn : n ≤ 12) (hf : A.all sfin = true) (hA : A.length = n * n) (hi : i < n) : ∀ (d k : Nat), k + d = n → spec_l02RowNorm_l2_g n A w (i : Int) (rs A n i k, (k : Int)) = some (rs A n i n) := by
  intro d
  induction d with
  | zero =>
    intro k hk
    have : k = n := by omega
    subst this
    have k0 : ¬ k < k := by omega
    refine whileM_inr (T := fun s => (spec_l02RowNorm_l2_T (k : Int) A w (i : Int) s).run) ?_
    simp only [spec_l02RowNorm_l2_T, Tree.run, lt_nat, k0, decide_false, Bool.false_eq_true, if_false]
  | succ d ih =>
    intro k hk
    have k0 : k < n := by omega
    have sz : ∀ s, fadd .f32 s (spec_l02Size_v (nth A (i * n + k))) = fadd .f32 s (nth A (i * n + k) % 2147483648) := fun s => by
      have e : spec_l02Size_v (nth A (i * n + k)) = size32 (nth A (i * n + k)) := rfl
      rw [e, add_form, add_form, (abs_any (all_iff.1 hf _ (by rw [hA]; exact rc_lt hi k0))).2]
    refine whileM_inl (T := fun s => (spec_l02RowNorm_l2_T (n : Int) A w (i : Int) s).run) (s' := (rs A n i (k + 1), ((k + 1 : Nat) : Int))) ?_ (ih (k + 1) (by omega))
    simp only [spec_l02RowNorm_l2_T, Tree.run, lt_nat, k0, decide_true, if_true, atS hi k0 hn hn hA, sz, Option.bind_some, w1 (show k ≤ 1000 by omega)]
    rfl
theorem normLI (hn : n ≤ 12) (hf : A.all sfin = true) (hA : A.length = n * n) : ∀ (d i : Nat), i + d = n → impl_Matrix_rowNorm_l0_g n n A (rn A n i, (i : Int)) = some (rn A n n) := by
  intro d
  induction d with
  | zero =>
    intro i hi
    have : i = n := by omega
    subst this
    have k0 : ¬ i < i := by omega
    refine whileM_inr (T := fun s => (impl_Matrix_rowNorm_l0_T (i : Int) (i : Int) A s).run) ?_
    simp only [impl_Matrix_rowNorm_l0_T, Tree.run, lt_nat, k0, decide_false, Bool.false_eq_true, if_false]
  | succ d ih =>
    intro i hi
    have k0 : i < n := by omega
    have rw0 : impl_Matrix_rowNorm_l2_g n A (rn A n i) (i : Int) ((0 : Nat), (0 : Int)) = some (rs A n i n) := rowLI hn hf hA k0 n 0 (by omega)
    have mx := max_pos2 (rn_le hf hA i (by omega)) (rs_le hf hA k0 n (Nat.le_refl _))
    refine whileM_inl (T := fun s => (impl_Matrix_rowNorm_l0_T (n : Int) (n : Int) A s).run) (s' := (rn A n (i + 1), ((i + 1 : Nat) : Int))) ?_ (ih (i + 1) (by omega))
    simp only [impl_Matrix_rowNorm_l0_T, Tree.run, lt_nat, k0, decide_true, if_true, rw0, mx, Option.bind_some, w1 (show i ≤ 1000 by omega)]
    rfl
theorem normLS (hn : n ≤ 12) (hf : A.all sfin = true) (hA : A.length = n * n) : ∀ (d i : Nat), i + d = n → spec_l02RowNorm_l0_g n n A (rn A n i, (i : Int)) = some (rn A n n) := by
  intro d
  induction d with
  | zero =>
    intro i hi
    have : i = n := by omega
    subst this
    have k0 : ¬ i < i := by omega
    refine whileM_inr (T := fun s => (spec_l02RowNorm_l0_T (i : Int) (i : Int) A s).run) ?_
    simp only [spec_l02RowNorm_l0_T, Tree.run, lt_nat, k0, decide_false, Bool.false_eq_true, if_false]
  | succ d ih =>
    intro i hi
    have k0 : i < n := by omega
    have rw0 : spec_l02RowNorm_l2_g n A (rn A n i) (i : Int) ((0 : Nat), (0 : Int)) = some (rs A n i n) := rowLS hn hf hA k0 n 0 (by omega)
    refine whileM_inl (T := fun s => (spec_l02RowNorm_l0_T (n : Int) (n : Int) A s).run) (s' := (rn A n (i + 1), ((i + 1 : Nat) : Int))) ?_ (ih (i + 1) (by omega))
    cases hg : fgrt .f32 (rs A n i n) (rn A n i) with
    | true =>
      simp only [spec_l02RowNorm_l0_T, Tree.run, lt_nat, k0, decide_true, if_true, rw0, hg, Option.bind_some, w1 (show i ≤ 1000 by omega)]
      simp only [rn, hg, if_true]
    | false =>
      simp only [spec_l02RowNorm_l0_T, Tree.run, lt_nat, k0, decide_true, if_true, rw0, hg, Option.bind_some, Bool.false_eq_true, if_false, w1 (show i ≤ 1000 by omega)]
      simp only [rn, hg, Bool.false_eq_true, if_false]
def normR (A : List Nat) (n : Nat) : Unit ⊕ Nat := if sfin (rn A n n) = true then .inr (rn A n n) else .inl ()
theorem normBI (h1 : 1 ≤ n) (hn : n ≤ 12) (hf : A.all sfin = true) (hA : A.length = n * n) : impl_RowNorm_g n n A = some (normR A n) := by
  have hb := le144 hn hn
  have v := vmI n n A (by unfold maxN; omega)
  rw [vm_nat h1 hn h1 hn hA, hf] at v
  have g : impl_Matrix_rowNorm_l0_g n n A ((0 : Nat), (0 : Int)) = some (rn A n n) := normLI hn hf hA n 0 (by omega)
  have m : impl_Matrix_rowNorm_g n n A = some (rn A n n) := by
    simp only [impl_Matrix_rowNorm_g, impl_Matrix_rowNorm_T, Tree.run, g, Option.bind_some, if_true]
  have fI : impl_finite_v (rn A n n) = normR A n := by
    unfold impl_finite_v normR
    rw [finI]
    cases sfin (rn A n n) <;> rfl
  simp only [impl_RowNorm_g, impl_RowNorm_T, Tree.run, v, m, fI, Option.bind_some, Bool.not_true, Bool.false_eq_true, if_false]
  unfold normR
  cases sfin (rn A n n) <;> simp [Tree.run]
theorem normBS (h1 : 1 ≤ n) (hn : n ≤ 12) (hf : A.all sfin = true) (hA : A.length = n * n) : spec_RowNorm_g n n A = some (normR A n) := by
  have hb := le144 hn hn
  have v := vmS n n A (by unfold maxN; omega)
  rw [vm_nat h1 hn h1 hn hA, hf] at v
  have g : spec_l02RowNorm_l0_g n n A ((0 : Nat), (0 : Int)) = some (rn A n n) := normLS hn hf hA n 0 (by omega)
  have m : spec_l02RowNorm_g n n A = some (rn A n n) := by
    simp only [spec_l02RowNorm_g, spec_l02RowNorm_T, Tree.run, g, Option.bind_some, if_true]
  have fI : spec_l02Number_v (rn A n n) = normR A n := by
    unfold spec_l02Number_v spec_l01Finite_v normR
    rw [show feq .f32 (fsub .f32 (rn A n n) (rn A n n)) 0 = sfin (rn A n n) from rfl]
    cases sfin (rn A n n) <;> rfl
  simp only [spec_RowNorm_g, spec_RowNorm_T, Tree.run, v, m, fI, Option.bind_some, Bool.not_true, Bool.false_eq_true, if_false]
  unfold normR
  cases sfin (rn A n n) <;> simp [Tree.run]
/-! halves, quotients, sums -/
def halfL (n : Nat) (A : List Nat) : List Nat := rc n n fun i k => fmul .f32 1056964608 (nth A (i * n + k))
def divL (n : Nat) (A : List Nat) (k : Int) : List Nat := rc n n fun i j => fdiv .f32 (nth A (i * n + j)) (fofint .f32 k)
def addL (n : Nat) (A B : List Nat) : List Nat := rc n n fun i j => fadd .f32 (nth A (i * n + j)) (nth B (i * n + j))
@[simp] theorem halfL_length (n : Nat) (A : List Nat) : (halfL n A).length = n * n := by simp [halfL]
@[simp] theorem divL_length (n : Nat) (A : List Nat) (k : Int) : (divL n A k).length = n * n := by simp [divL]
@[simp] theorem addL_length (n : Nat) (A B : List Nat) : (addL n A B).length = n * n := by simp [addL]
theorem halfI (hn : n ≤ 12) (hA : A.length = n * n) : impl_made_g n n n n A = some ((n : Int), (n : Int), halfL n A) := by
  have : impl_made_l0_g n n n n A n n ((0 : Int), List.replicate (n * n) 0) = some (halfL n A) := by
    refine made_gen (T0 := fun s => (impl_made_l0_T n n n n A n n s).run) (T2 := fun i s => (impl_made_l2_T n n A i n n s).run) (n := n) (m := n) ?_ ?_ ?_ ?_
    · intro i k s hi hk hs
      have hc : impl_ExpMatrix_1_g (i : Int) (k : Int) n A = some (fmul .f32 1056964608 (nth A (i * n + k))) := by
        simp only [impl_ExpMatrix_1_g, impl_ExpMatrix_1_T, impl_mul_v, Tree.run, atI hi hk hn hn hA, Option.bind_some]
      simp only [impl_made_l2_T, Tree.run, lt_nat, hk, decide_true, if_true, hc, setR hi hk hn hn hs, Option.bind_some, atw hi hk hn hn, Int.toNat_natCast, List.length_set, w1 (show k ≤ 1000 by omega)]
    · intro i s hi; simp [impl_made_l2_T, Tree.run]
    · intro i s s' hi h
      have h' : impl_made_l2_g n n A i n n ((0 : Int), s) = some s' := h
      simp only [impl_made_l0_T, Tree.run, lt_nat, hi, decide_true, if_true, h', Option.bind_some, w1 (show i ≤ 1000 by omega)]
    · intro s; simp [impl_made_l0_T, Tree.run]
  simp only [impl_made_g, impl_made_T, Tree.run, newR hn hn, mulw hn hn, Int.toNat_natCast, this, Option.bind_some, if_true]
theorem divI {k0 : Int} (hn : n ≤ 12) (hA : A.length = n * n) : impl_made_i3_g n n n n A k0 = some ((n : Int), (n : Int), divL n A k0) := by
  have : impl_made_i3_l0_g n n n n A k0 n n ((0 : Int), List.replicate (n * n) 0) = some (divL n A k0) := by
    refine made_gen (T0 := fun s => (impl_made_i3_l0_T n n n n A k0 n n s).run) (T2 := fun i s => (impl_made_i3_l2_T n n A k0 i n n s).run) (n := n) (m := n) ?_ ?_ ?_ ?_
    · intro i k s hi hk hs
      have hc : impl_ExpMatrix_2_g (i : Int) (k : Int) n A k0 = some (fdiv .f32 (nth A (i * n + k)) (fofint .f32 k0)) := by
        simp only [impl_ExpMatrix_2_g, impl_ExpMatrix_2_T, Tree.run, atI hi hk hn hn hA, Option.bind_some]
      simp only [impl_made_i3_l2_T, Tree.run, lt_nat, hk, decide_true, if_true, hc, setR hi hk hn hn hs, Option.bind_some, atw hi hk hn hn, Int.toNat_natCast, List.length_set, w1 (show k ≤ 1000 by omega)]
    · intro i s hi; simp [impl_made_i3_l2_T, Tree.run]
    · intro i s s' hi h
      have h' : impl_made_i3_l2_g n n A k0 i n n ((0 : Int), s) = some s' := h
      simp only [impl_made_i3_l0_T, Tree.run, lt_nat, hi, decide_true, if_true, h', Option.bind_some, w1 (show i ≤ 1000 by omega)]
    · intro s; simp [impl_made_i3_l0_T, Tree.run]
  simp only [impl_made_i3_g, impl_made_i3_T, Tree.run, newR hn hn, mulw hn hn, Int.toNat_natCast, this, Option.bind_some, if_true]
theorem addI (hn : n ≤ 12) (hA : A.length = n * n) (hB : B.length = n * n) : impl_made_i4_g n n n n A n n B = some ((n : Int), (n : Int), addL n A B) := by
  have : impl_made_i4_l0_g n n n n A n n B n n ((0 : Int), List.replicate (n * n) 0) = some (addL n A B) := by
    refine made_gen (T0 := fun s => (impl_made_i4_l0_T n n n n A n n B n n s).run) (T2 := fun i s => (impl_made_i4_l2_T n n A n B i n n s).run) (n := n) (m := n) ?_ ?_ ?_ ?_
    · intro i k s hi hk hs
      have hc : impl_ExpMatrix_3_g (i : Int) (k : Int) n A n B = some (fadd .f32 (nth A (i * n + k)) (nth B (i * n + k))) := by
        simp only [impl_ExpMatrix_3_g, impl_ExpMatrix_3_T, Tree.run, atI hi hk hn hn hA, atI hi hk hn hn hB, Option.bind_some]
      simp only [impl_made_i4_l2_T, Tree.run, lt_nat, hk, decide_true, if_true, hc, setR hi hk hn hn hs, Option.bind_some, atw hi hk hn hn, Int.toNat_natCast, List.length_set, w1 (show k ≤ 1000 by omega)]
    · intro i s hi; simp [impl_made_i4_l2_T, Tree.run]
    · intro i s s' hi h
      have h' : impl_made_i4_l2_g n n A n B i n n ((0 : Int), s) = some s' := h
      simp only [impl_made_i4_l0_T, Tree.run, lt_nat, hi, decide_true, if_true, h', Option.bind_some, w1 (show i ≤ 1000 by omega)]
    · intro s; simp [impl_made_i4_l0_T, Tree.run]
  simp only [impl_made_i4_g, impl_made_i4_T, Tree.run, newR hn hn, mulw hn hn, Int.toNat_natCast, this, Option.bind_some, if_true]
theorem setN {xs : List Nat} {p j v : Nat} (h : p < xs.length) : nth (xs.set p v) j = if p = j then v else nth xs j := by
  by_cases hj : j < xs.length
  · rw [nth_of _ _ (by simpa using hj), nth_of _ _ hj, List.getElem_set]
  · have : ¬ p = j := by omega
    rw [if_neg this]
    unfold nth
    simp [hj]
theorem halfS (hn : n ≤ 12) (hA : A.length = n * n) : spec_l04Half_g n n A = some ((n : Int), (n : Int), halfL n A) := by
  have hb := le144 hn hn
  have key : ∀ (d p : Nat) (s : List Nat), p + d = n * n → s.length = n * n → ∃ s', spec_l04Half_l0_g ((p : Int), s) = some s' ∧ s'.length = n * n ∧ ∀ j, j < n * n → nth s' j = if p ≤ j then fmul .f32 1056964608 (nth s j) else nth s j := by
    intro d
    induction d with
    | zero =>
      intro p s hp hs
      have k0 : decide ((p : Int) < ((s.length : Nat) : Int)) = false := decide_eq_false (by omega)
      refine ⟨s, whileM_inr (T := fun s => (spec_l04Half_l0_T s).run) ?_, hs, fun j hj => by rw [if_neg (by omega)]⟩
      simp only [spec_l04Half_l0_T, Tree.run, k0, Bool.false_eq_true, if_false]
    | succ d ih =>
      intro p s hp hs
      have k0 : decide ((p : Int) < ((s.length : Nat) : Int)) = true := decide_eq_true (by omega)
      have k1 : inb (p : Int) s.length = true := inb_iff.2 ⟨by omega, by omega⟩
      obtain ⟨s', g1, g2, g3⟩ := ih (p + 1) (s.set p (fmul .f32 1056964608 (nth s p))) (by omega) (by simp [hs])
      refine ⟨s', whileM_inl (T := fun s => (spec_l04Half_l0_T s).run) ?_ g1, g2, fun j hj => ?_⟩
      · simp only [spec_l04Half_l0_T, Tree.run, k0, k1, if_true, Int.toNat_natCast, w1 (show p ≤ 1000 by omega)]
      · rw [g3 j hj, setN (by omega)]
        by_cases e : p = j
        · subst e; rw [if_neg (by omega), if_pos rfl, if_pos (Nat.le_refl _)]
        · rw [if_neg e]
          by_cases e2 : p + 1 ≤ j
          · rw [if_pos e2, if_pos (by omega)]
          · rw [if_neg e2, if_neg (by omega)]
  obtain ⟨s', g1, g2, g3⟩ := key (n * n) 0 A (by omega) hA
  have e : s' = halfL n A := rc_ext g2 fun i k hi hk => by rw [g3 _ (rc_lt hi hk), if_pos (Nat.zero_le _)]
  rw [e] at g1
  have g1' : spec_l04Half_l0_g ((0 : Int), A) = some (halfL n A) := g1
  simp only [spec_l04Half_g, spec_l04Half_T, Tree.run, g1', Option.bind_some, if_true]
theorem termS {a b c d e f g : Int} {C : List Nat} {k : Int} (hn : n ≤ 12) (hA : A.length = n * n) (hB : B.length = n * n) : spec_ExpMatrix_l4_g a k b c d e f g C ((0 : Int), A, B) = some (addL n A (divL n B k), divL n B k) := by
  have hb := le144 hn hn
  have key : ∀ (q p : Nat) (x t : List Nat), p + q = n * n → x.length = n * n → t.length = n * n → ∃ x' t', spec_ExpMatrix_l4_g a k b c d e f g C ((p : Int), x, t) = some (x', t') ∧ x'.length = n * n ∧ t'.length = n * n ∧
      (∀ j, j < n * n → nth t' j = if p ≤ j then fdiv .f32 (nth t j) (fofint .f32 k) else nth t j) ∧ ∀ j, j < n * n → nth x' j = if p ≤ j then fadd .f32 (nth x j) (fdiv .f32 (nth t j) (fofint .f32 k)) else nth x j := by
    intro q
    induction q with
    | zero =>
      intro p x t hp hx ht
      have k0 : decide ((p : Int) < ((t.length : Nat) : Int)) = false := decide_eq_false (by omega)
      refine ⟨x, t, whileM_inr (T := fun s => (spec_ExpMatrix_l4_T a k b c d e f g C s).run) ?_, hx, ht, fun j hj => by rw [if_neg (by omega)], fun j hj => by rw [if_neg (by omega)]⟩
      simp only [spec_ExpMatrix_l4_T, Tree.run, k0, Bool.false_eq_true, if_false]
    | succ q ih =>
      intro p x t hp hx ht
      have k0 : decide ((p : Int) < ((t.length : Nat) : Int)) = true := decide_eq_true (by omega)
      have k1 : inb (p : Int) t.length = true := inb_iff.2 ⟨by omega, by omega⟩
      have k2 : inb (p : Int) x.length = true := inb_iff.2 ⟨by omega, by omega⟩
      have e1 : nth (t.set p (fdiv .f32 (nth t p) (fofint .f32 k))) p = fdiv .f32 (nth t p) (fofint .f32 k) := by rw [setN (by omega), if_pos rfl]
      obtain ⟨x', t', g1, g2, g3, g4, g5⟩ := ih (p + 1) (x.set p (fadd .f32 (nth x p) (fdiv .f32 (nth t p) (fofint .f32 k)))) (t.set p (fdiv .f32 (nth t p) (fofint .f32 k))) (by omega) (by simp [hx]) (by simp [ht])
      refine ⟨x', t', whileM_inl (T := fun s => (spec_ExpMatrix_l4_T a k b c d e f g C s).run) ?_ g1, g2, g3, fun j hj => ?_, fun j hj => ?_⟩
      · simp only [spec_ExpMatrix_l4_T, Tree.run, k0, k1, k2, if_true, Int.toNat_natCast, e1, w1 (show p ≤ 1000 by omega)]
      · rw [g4 j hj, setN (by omega)]
        by_cases e : p = j
        · subst e; rw [if_neg (by omega), if_pos rfl, if_pos (Nat.le_refl _)]
        · rw [if_neg e]
          by_cases e2 : p + 1 ≤ j
          · rw [if_pos e2, if_pos (by omega)]
          · rw [if_neg e2, if_neg (by omega)]
      · rw [g5 j hj, setN (by omega), setN (by omega)]
        by_cases e : p = j
        · subst e; rw [if_neg (by omega), if_pos rfl, if_pos (Nat.le_refl _)]
        · rw [if_neg e, if_neg e]
          by_cases e2 : p + 1 ≤ j
          · rw [if_pos e2, if_pos (by omega)]
          · rw [if_neg e2, if_neg (by omega)]
  obtain ⟨x', t', g1, g2, g3, g4, g5⟩ := key (n * n) 0 A B (by omega) hA hB
  have et : t' = divL n B k := rc_ext g3 fun i j hi hj => by rw [g4 _ (rc_lt hi hj), if_pos (Nat.zero_le _)]
  have ex : x' = addL n A (divL n B k) := rc_ext g2 fun i j hi hj => by
    rw [g5 _ (rc_lt hi hj), if_pos (Nat.zero_le _)]
    unfold divL
    rw [rc_nth _ hi hj]
  rw [et, ex] at g1
  exact g1
end
end Go.Proofs.Ytjadfgeemfdbmaa.AM
