/- The law SameSheets: both sides, and the law. -/
import Derived.Test.YthdmkdkbfhoahaaSH0
import Derived.Test.YthdmkdkbfhoahaaFS0
set_option linter.unusedSimpArgs false
set_option linter.unusedVariables false
set_option maxHeartbeats 2000000
namespace Go.Proofs.Ythdmkdkbfhoahaa.AM

theorem nth_mem {xs : List Nat} {i : Nat} (h : i < xs.length) : nth xs i ∈ xs := by rw [nth_of _ _ h]; exact List.getElem_mem h
theorem sr_loop {a b : List Nat} (hl : a.length = b.length) (hm : a.length ≤ maxN) (ha : ∀ x ∈ a, x < 4294967296) (hb : ∀ x ∈ b, x < 4294967296) : ∀ (d i : Nat), i + d = a.length →
    ∃ r, slices_EqualFunc_float32_float32_float32_float32_l0_g a b (i : Int) = some r ∧ spec_l01SameAll_l0_g a b (i : Int) = some r
  | 0, i, hd => by
    have : i = a.length := by omega
    subst this
    refine ⟨.inr (), wl_inr (T := fun s => (slices_EqualFunc_float32_float32_float32_float32_l0_T a b s).run) ?_, wl_inr (T := fun s => (spec_l01SameAll_l0_T a b s).run) ?_⟩
    · simp only [slices_EqualFunc_float32_float32_float32_float32_l0_T, Tree.run, ltn, Nat.lt_irrefl, decide_false, Bool.false_eq_true, if_false]
    · simp only [spec_l01SameAll_l0_T, Tree.run, ltn, Nat.lt_irrefl, decide_false, Bool.false_eq_true, if_false]
  | d + 1, i, hd => by
    have hi : i < a.length := by omega
    have hi2 : i < b.length := by omega
    unfold maxN at hm
    have h1 := sameI (nth a i) (nth b i) (ha _ (nth_mem hi)) (hb _ (nth_mem hi2))
    have h2 := sameS (nth a i) (nth b i) (ha _ (nth_mem hi)) (hb _ (nth_mem hi2))
    cases hv : sameW (nth a i) (nth b i) with
    | false =>
      rw [hv] at h1 h2
      refine ⟨.inl (), wl_inr (T := fun s => (slices_EqualFunc_float32_float32_float32_float32_l0_T a b s).run) ?_, wl_inr (T := fun s => (spec_l01SameAll_l0_T a b s).run) ?_⟩
      · simp only [slices_EqualFunc_float32_float32_float32_float32_l0_T, Tree.run, ltn, inb_nat, hi, hi2, decide_true, if_true, Int.toNat_natCast, h1, Option.bind_some, Bool.not_false]
      · simp only [spec_l01SameAll_l0_T, Tree.run, ltn, inb_nat, hi, hi2, decide_true, if_true, Int.toNat_natCast, h2, Option.bind_some, Bool.not_false]
    | true =>
      rw [hv] at h1 h2
      obtain ⟨r, g1, g2⟩ := sr_loop hl (by unfold maxN; omega) ha hb d (i + 1) (by omega)
      refine ⟨r, wl_inl (T := fun s => (slices_EqualFunc_float32_float32_float32_float32_l0_T a b s).run) ?_ g1, wl_inl (T := fun s => (spec_l01SameAll_l0_T a b s).run) ?_ g2⟩
      · simp only [slices_EqualFunc_float32_float32_float32_float32_l0_T, Tree.run, ltn, inb_nat, hi, hi2, decide_true, if_true, Int.toNat_natCast, h1, Option.bind_some, Bool.not_true, Bool.false_eq_true, if_false, w_succ (show i < 4611686018427387904 by omega)]
      · simp only [spec_l01SameAll_l0_T, Tree.run, ltn, inb_nat, hi, hi2, decide_true, if_true, Int.toNat_natCast, h2, Option.bind_some, Bool.not_true, Bool.false_eq_true, if_false, w_succ (show i < 4611686018427387904 by omega)]
theorem sr_both {a b : List Nat} (hm : a.length ≤ maxN) (ha : ∀ x ∈ a, x < 4294967296) (hb : ∀ x ∈ b, x < 4294967296) : ∃ v, impl_sameNumbers_g a b = some v ∧ spec_l01SameAll_g a b = some v := by
  by_cases hl : a.length = b.length
  · obtain ⟨r, g1, g2⟩ := sr_loop hl hm ha hb a.length 0 (by omega)
    have g1 : slices_EqualFunc_float32_float32_float32_float32_l0_g a b (0 : Int) = some r := g1
    have g2 : spec_l01SameAll_l0_g a b (0 : Int) = some r := g2
    have hd : decide (((a.length : Nat) : Int) = ((b.length : Nat) : Int)) = true := decide_eq_true (by omega)
    cases r with
    | inl u => exact ⟨false, by simp only [impl_sameNumbers_g, impl_sameNumbers_T, slices_EqualFunc_float32_float32_float32_float32_g, slices_EqualFunc_float32_float32_float32_float32_T, Tree.run, hd, Bool.not_true, Bool.false_eq_true, if_false, if_true, g1, Option.bind_some],
        by simp only [spec_l01SameAll_g, spec_l01SameAll_T, Tree.run, hd, Bool.not_true, Bool.false_eq_true, if_false, if_true, g2, Option.bind_some]⟩
    | inr u => exact ⟨true, by simp only [impl_sameNumbers_g, impl_sameNumbers_T, slices_EqualFunc_float32_float32_float32_float32_g, slices_EqualFunc_float32_float32_float32_float32_T, Tree.run, hd, Bool.not_true, Bool.false_eq_true, if_false, if_true, g1, Option.bind_some],
        by simp only [spec_l01SameAll_g, spec_l01SameAll_T, Tree.run, hd, Bool.not_true, Bool.false_eq_true, if_false, if_true, g2, Option.bind_some]⟩
  · have hd : decide (((a.length : Nat) : Int) = ((b.length : Nat) : Int)) = false := decide_eq_false (by omega)
    exact ⟨false, by simp only [impl_sameNumbers_g, impl_sameNumbers_T, slices_EqualFunc_float32_float32_float32_float32_g, slices_EqualFunc_float32_float32_float32_float32_T, Tree.run, hd, Bool.not_false, if_true, Option.bind_some],
      by simp only [spec_l01SameAll_g, spec_l01SameAll_T, Tree.run, hd, Bool.not_false, if_true]⟩
theorem sm_both (r c r' c' : Int) {a b : List Nat} (hm : a.length ≤ maxN) (ha : ∀ x ∈ a, x < 4294967296) (hb : ∀ x ∈ b, x < 4294967296) : ∃ v, impl_SameMatrix_g r c a r' c' b = some v ∧ spec_l02Same_g r c a r' c' b = some v := by
  obtain ⟨v, h1, h2⟩ := sr_both hm ha hb
  by_cases e1 : r = r'
  · by_cases e2 : c = c'
    · exact ⟨v, by simp only [impl_SameMatrix_g, impl_SameMatrix_T, Tree.run, e1, e2, decide_true, if_true, h1, Option.bind_some], by simp only [spec_l02Same_g, spec_l02Same_T, Tree.run, e1, e2, decide_true, if_true, h2, Option.bind_some]⟩
    · exact ⟨false, by simp only [impl_SameMatrix_g, impl_SameMatrix_T, Tree.run, e1, e2, decide_true, decide_false, Bool.false_eq_true, if_false, if_true], by simp only [spec_l02Same_g, spec_l02Same_T, Tree.run, e1, e2, decide_true, decide_false, Bool.false_eq_true, if_false, if_true]⟩
  · exact ⟨false, by simp only [impl_SameMatrix_g, impl_SameMatrix_T, Tree.run, e1, decide_false, Bool.false_eq_true, if_false], by simp only [spec_l02Same_g, spec_l02Same_T, Tree.run, e1, decide_false, Bool.false_eq_true, if_false]⟩
theorem ss_loop {n : Nat} {na nb : List ByteArray} {ra ca rb cb : List Int} {p q : List (List Nat)} (hA : Sa n na ra ca p) (hB : Sa n nb rb cb q) : ∀ (d i : Nat), i + d = n →
    ∃ r, slices_EqualFunc_impl_Sheet_impl_Sheet_impl_Sheet_impl_Sheet_nst_l0_g na ra ca p (ixR n) nb rb cb q (ixR n) (i : Int) = some r ∧ spec_SameSheets_nst_l0_g na ra ca p (ixR n) nb rb cb q (ixR n) (i : Int) = some r
  | 0, i, hd => by
    have : i = n := by omega
    subst this
    refine ⟨.inr (), wl_inr (T := fun s => (slices_EqualFunc_impl_Sheet_impl_Sheet_impl_Sheet_impl_Sheet_nst_l0_T na ra ca p (ixR i) nb rb cb q (ixR i) s).run) ?_, wl_inr (T := fun s => (spec_SameSheets_nst_l0_T na ra ca p (ixR i) nb rb cb q (ixR i) s).run) ?_⟩
    · simp only [slices_EqualFunc_impl_Sheet_impl_Sheet_impl_Sheet_impl_Sheet_nst_l0_T, Tree.run, hA.ln, ltn, Nat.lt_irrefl, decide_false, Bool.false_eq_true, if_false]
    · simp only [spec_SameSheets_nst_l0_T, Tree.run, hA.ln, ltn, Nat.lt_irrefl, decide_false, Bool.false_eq_true, if_false]
  | d + 1, i, hd => by
    have hi : i < n := by omega
    have hn := hA.n20
    obtain ⟨v, h1, h2⟩ := sm_both (nth ra i) (nth ca i) (nth rb i) (nth cb i) (a := nget p (i + 1)) (b := nget q (i + 1)) (hA.row i hi) (hA.wd i hi) (hB.wd i hi)
    cases hnm : ((nth na i).toList == (nth nb i).toList) with
    | false =>
      have c1 : impl_SameSheets_1_g (nth na i) (nth ra i) (nth ca i) (nget p (i + 1)) (nth nb i) (nth rb i) (nth cb i) (nget q (i + 1)) = some false := by
        simp only [impl_SameSheets_1_g, impl_SameSheets_1_T, Tree.run, hnm, Bool.false_eq_true, if_false]
      refine ⟨.inl (), wl_inr (T := fun s => (slices_EqualFunc_impl_Sheet_impl_Sheet_impl_Sheet_impl_Sheet_nst_l0_T na ra ca p (ixR n) nb rb cb q (ixR n) s).run) ?_, wl_inr (T := fun s => (spec_SameSheets_nst_l0_T na ra ca p (ixR n) nb rb cb q (ixR n) s).run) ?_⟩
      · simp only [slices_EqualFunc_impl_Sheet_impl_Sheet_impl_Sheet_impl_Sheet_nst_l0_T, Tree.run, hA.ln, hB.ln, ltn, inb_nat, hi, decide_true, if_true, Int.toNat_natCast, ixR_nth hi, c1, Option.bind_some, Bool.not_false]
      · simp only [spec_SameSheets_nst_l0_T, Tree.run, hA.ln, hB.ln, ltn, inb_nat, hi, decide_true, if_true, Int.toNat_natCast, ixR_nth hi, hnm, Bool.not_false]
    | true =>
      have c1 : impl_SameSheets_1_g (nth na i) (nth ra i) (nth ca i) (nget p (i + 1)) (nth nb i) (nth rb i) (nth cb i) (nget q (i + 1)) = some v := by
        simp only [impl_SameSheets_1_g, impl_SameSheets_1_T, Tree.run, hnm, if_true, h1, Option.bind_some]
      cases v with
      | false =>
        refine ⟨.inl (), wl_inr (T := fun s => (slices_EqualFunc_impl_Sheet_impl_Sheet_impl_Sheet_impl_Sheet_nst_l0_T na ra ca p (ixR n) nb rb cb q (ixR n) s).run) ?_, wl_inr (T := fun s => (spec_SameSheets_nst_l0_T na ra ca p (ixR n) nb rb cb q (ixR n) s).run) ?_⟩
        · simp only [slices_EqualFunc_impl_Sheet_impl_Sheet_impl_Sheet_impl_Sheet_nst_l0_T, Tree.run, hA.ln, hB.ln, ltn, inb_nat, hi, decide_true, if_true, Int.toNat_natCast, ixR_nth hi, c1, Option.bind_some, Bool.not_false]
        · simp only [spec_SameSheets_nst_l0_T, Tree.run, hA.ln, hB.ln, ltn, inb_nat, hi, decide_true, if_true, Int.toNat_natCast, ixR_nth hi, hnm, Bool.not_true, Bool.false_eq_true, if_false, h2, Option.bind_some, Bool.not_false]
      | true =>
        obtain ⟨r, g1, g2⟩ := ss_loop hA hB d (i + 1) (by omega)
        refine ⟨r, wl_inl (T := fun s => (slices_EqualFunc_impl_Sheet_impl_Sheet_impl_Sheet_impl_Sheet_nst_l0_T na ra ca p (ixR n) nb rb cb q (ixR n) s).run) ?_ g1, wl_inl (T := fun s => (spec_SameSheets_nst_l0_T na ra ca p (ixR n) nb rb cb q (ixR n) s).run) ?_ g2⟩
        · simp only [slices_EqualFunc_impl_Sheet_impl_Sheet_impl_Sheet_impl_Sheet_nst_l0_T, Tree.run, hA.ln, hB.ln, ltn, inb_nat, hi, decide_true, if_true, Int.toNat_natCast, ixR_nth hi, c1, Option.bind_some, Bool.not_true, Bool.false_eq_true, if_false, w_succ (show i < 4611686018427387904 by omega)]
        · simp only [spec_SameSheets_nst_l0_T, Tree.run, hA.ln, hB.ln, ltn, inb_nat, hi, decide_true, if_true, Int.toNat_natCast, ixR_nth hi, hnm, Bool.not_true, Bool.false_eq_true, if_false, h2, Option.bind_some, w_succ (show i < 4611686018427387904 by omega)]
theorem sames_both {n m : Nat} {na nb : List ByteArray} {ra ca rb cb : List Int} {p q : List (List Nat)} (hA : Sa n na ra ca p) (hB : Sa m nb rb cb q) : ∃ v, impl_SameSheets_nst_g na ra ca p (ixR n) nb rb cb q (ixR m) = some v ∧ spec_SameSheets_nst_g na ra ca p (ixR n) nb rb cb q (ixR m) = some v := by
  by_cases hl : n = m
  · subst hl
    obtain ⟨r, g1, g2⟩ := ss_loop hA hB n 0 (by omega)
    have g1 : slices_EqualFunc_impl_Sheet_impl_Sheet_impl_Sheet_impl_Sheet_nst_l0_g na ra ca p (ixR n) nb rb cb q (ixR n) (0 : Int) = some r := g1
    have g2 : spec_SameSheets_nst_l0_g na ra ca p (ixR n) nb rb cb q (ixR n) (0 : Int) = some r := g2
    cases r with
    | inl u => exact ⟨false, by simp only [impl_SameSheets_nst_g, impl_SameSheets_nst_T, slices_EqualFunc_impl_Sheet_impl_Sheet_impl_Sheet_impl_Sheet_nst_g, slices_EqualFunc_impl_Sheet_impl_Sheet_impl_Sheet_impl_Sheet_nst_T, Tree.run, hA.ln, hB.ln, decide_true, Bool.not_true, Bool.false_eq_true, if_false, if_true, g1, Option.bind_some],
        by simp only [spec_SameSheets_nst_g, spec_SameSheets_nst_T, Tree.run, hA.ln, hB.ln, decide_true, Bool.not_true, Bool.false_eq_true, if_false, if_true, g2, Option.bind_some]⟩
    | inr u => exact ⟨true, by simp only [impl_SameSheets_nst_g, impl_SameSheets_nst_T, slices_EqualFunc_impl_Sheet_impl_Sheet_impl_Sheet_impl_Sheet_nst_g, slices_EqualFunc_impl_Sheet_impl_Sheet_impl_Sheet_impl_Sheet_nst_T, Tree.run, hA.ln, hB.ln, decide_true, Bool.not_true, Bool.false_eq_true, if_false, if_true, g1, Option.bind_some],
        by simp only [spec_SameSheets_nst_g, spec_SameSheets_nst_T, Tree.run, hA.ln, hB.ln, decide_true, Bool.not_true, Bool.false_eq_true, if_false, if_true, g2, Option.bind_some]⟩
  · have hd : decide (((n : Nat) : Int) = ((m : Nat) : Int)) = false := decide_eq_false (by omega)
    exact ⟨false, by simp only [impl_SameSheets_nst_g, impl_SameSheets_nst_T, slices_EqualFunc_impl_Sheet_impl_Sheet_impl_Sheet_impl_Sheet_nst_g, slices_EqualFunc_impl_Sheet_impl_Sheet_impl_Sheet_impl_Sheet_nst_T, Tree.run, hA.ln, hB.ln, hd, decide_true, Bool.not_false, if_true, Option.bind_some],
      by simp only [spec_SameSheets_nst_g, spec_SameSheets_nst_T, Tree.run, hA.ln, hB.ln, hd, Bool.not_false, if_true]⟩
theorem sames_law (na : List ByteArray) (ra ca : List Int) (p : List (List Nat)) (nb : List ByteArray) (rb cb : List Int) (q : List (List Nat))
    {n : Nat} (hn : n < 9223372036854775808) (l0 : na.length = n) (h0 : ∀ i, i < n → (nth na i).size < 9223372036854775808) (l1 : ra.length = n) (h1 : ∀ i, i < n → -9223372036854775808 ≤ nth ra i ∧ nth ra i < 9223372036854775808)
    (l2 : ca.length = n) (h2 : ∀ i, i < n → -9223372036854775808 ≤ nth ca i ∧ nth ca i < 9223372036854775808) (l3 : p.length = n) (h3 : ∀ i, i < n → (nth p i).length ≤ maxN ∧ ∀ x ∈ nth p i, x < 4294967296)
    {m : Nat} (hm : m < 9223372036854775808) (m0 : nb.length = m) (k0 : ∀ i, i < m → (nth nb i).size < 9223372036854775808) (m1 : rb.length = m) (k1 : ∀ i, i < m → -9223372036854775808 ≤ nth rb i ∧ nth rb i < 9223372036854775808)
    (m2 : cb.length = m) (k2 : ∀ i, i < m → -9223372036854775808 ≤ nth cb i ∧ nth cb i < 9223372036854775808) (m3 : q.length = m) (k3 : ∀ i, i < m → (nth q i).length ≤ maxN ∧ ∀ x ∈ nth q i, x < 4294967296) : laws_FnExactSameSheets_g na ra ca p nb rb cb q = some true := by
  obtain ⟨k, hk, hk2⟩ := szShS (rs := ra) (cs := ca) l0 hn h0 (fun i hi => (h3 i hi).1) 1048576 (by omega) (by omega)
  by_cases z0 : k < 0
  · simp only [laws_FnExactSameSheets_g, laws_FnExactSameSheets_T, Tree.run, hk, Option.bind_some, z0, decide_true, if_true]
  obtain ⟨g1, g2, g3⟩ := hk2 z0
  obtain ⟨l, hl, hl2⟩ := szShS (rs := rb) (cs := cb) m0 hm k0 (fun i hi => (k3 i hi).1) k g2 g3
  by_cases z1 : l < 0
  · simp only [laws_FnExactSameSheets_g, laws_FnExactSameSheets_T, Tree.run, hk, hl, Option.bind_some, z0, z1, decide_true, decide_false, Bool.false_eq_true, if_false, if_true]
  have hA : Sa n na ra ca p := ⟨g1, l0, l1, l2, l3, h0, fun i hi => (h3 i hi).1, fun i hi => (h3 i hi).2⟩
  have hB : Sa m nb rb cb q := ⟨(hl2 z1).1, m0, m1, m2, m3, k0, fun i hi => (k3 i hi).1, fun i hi => (k3 i hi).2⟩
  have ta := toShS hA
  have tb := toShS hB
  have ea := eqShA hA
  have eb := eqShA hB
  obtain ⟨v, i1, i2⟩ := sames_both hA hB
  simp only [laws_FnExactSameSheets_g, laws_FnExactSameSheets_T, Tree.run, hk, hl, z0, z1, ta, tb, ea, eb, i1, i2, Option.bind_some, decide_true, decide_false, Bool.false_eq_true, if_false, if_true, Bool.not_true, Bool.not_false, beq_self_eq_true]
  first | done | simp [Tree.run]
theorem sames_lawL (na : List ByteArray) (ra ca : List Int) (a : List Nat) (nb : List ByteArray) (rb cb : List Int) (b : List Nat)
    {n : Nat} (hn : n < 9223372036854775808) (l0 : na.length = n) (h0 : ∀ i, i < n → (nth na i).size < 9223372036854775808) (l1 : ra.length = n) (h1 : ∀ i, i < n → -9223372036854775808 ≤ nth ra i ∧ nth ra i < 9223372036854775808)
    (l2 : ca.length = n) (h2 : ∀ i, i < n → -9223372036854775808 ≤ nth ca i ∧ nth ca i < 9223372036854775808) (l3 : a.length = n) (h3 : ∀ i, i < n → nth a i < 9223372036854775808)
    {m : Nat} (hm : m < 9223372036854775808) (m0 : nb.length = m) (k0 : ∀ i, i < m → (nth nb i).size < 9223372036854775808) (m1 : rb.length = m) (k1 : ∀ i, i < m → -9223372036854775808 ≤ nth rb i ∧ nth rb i < 9223372036854775808)
    (m2 : cb.length = m) (k2 : ∀ i, i < m → -9223372036854775808 ≤ nth cb i ∧ nth cb i < 9223372036854775808) (m3 : b.length = m) (k3 : ∀ i, i < m → nth b i < 9223372036854775808)
    (big : (∃ i, i < n ∧ maxN < nth a i) ∨ ∃ i, i < m ∧ maxN < nth b i) : laws_FnExactSameSheets_len_g na ra ca a nb rb cb b = some true := by
  obtain ⟨k, hk, hk2⟩ := szShL na ra ca a l0 h0 h3 hn 1048576 (by omega) (by omega)
  by_cases z0 : k < 0
  · simp only [laws_FnExactSameSheets_len_g, laws_FnExactSameSheets_len_T, Tree.run, hk, Option.bind_some, z0, decide_true, if_true]
  obtain ⟨g1, g2, g3⟩ := hk2 z0
  obtain ⟨l, hl, hl2⟩ := szShL nb rb cb b m0 k0 k3 hm k g1 g2
  have z1 : l < 0 := by
    by_cases h : l < 0
    · exact h
    · rcases big with ⟨i, q1, q2⟩ | ⟨i, q1, q2⟩
      · have := g3 i q1; omega
      · have := (hl2 h).2.2 i q1; omega
  simp only [laws_FnExactSameSheets_len_g, laws_FnExactSameSheets_len_T, Tree.run, hk, hl, Option.bind_some, z0, z1, decide_true, decide_false, Bool.false_eq_true, if_false, if_true]
end Go.Proofs.Ythdmkdkbfhoahaa.AM
