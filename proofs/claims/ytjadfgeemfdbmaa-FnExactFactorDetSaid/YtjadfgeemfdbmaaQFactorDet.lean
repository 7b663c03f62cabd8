/- The law FactorDet: both sides, and the law. -/
import Derived.Test.YtjadfgeemfdbmaaFA0
set_option linter.unusedSimpArgs false
set_option linter.unusedVariables false
set_option maxHeartbeats 1000000
namespace Go.Proofs.Ytjadfgeemfdbmaa.AM

theorem signIn (xs : List Int) (hl : xs.length ≤ 12) (i : Nat) (hi : i < xs.length) (q : BR) : ∀ (d j : Nat) (s : Int), i + 1 + j + d = xs.length →
    ∃ r, whileM (fun s => (impl_orderSign_l2_T (nth xs i) (i : Int) q (AM.sub xs ((i + 1 : Nat) : Int) (xs.length : Int)) (((xs.length - (i + 1)) : Nat) : Int) s).run) (s, (j : Int)) = some r ∧ whileM (fun s => (spec_OrderSign_l2_T xs (i : Int) s).run) (s, ((i + 1 + j : Nat) : Int)) = some r := by
  have hsl : (AM.sub xs ((i + 1 : Nat) : Int) (xs.length : Int)).length = xs.length - (i + 1) := by rw [sub_length (sok_iff.2 ⟨by omega, by omega, by omega⟩)]; simp
  intro d
  induction d with
  | zero =>
    intro j s hj
    have c1 : ¬ j < xs.length - (i + 1) := by omega
    have c2 : ¬ i + 1 + j < xs.length := by omega
    refine ⟨s, ?_, ?_⟩
    · refine whileM_inr ?_
      simp only [impl_orderSign_l2_T, Tree.run, lt_nat, c1, decide_false, Bool.false_eq_true, if_false]
    · refine whileM_inr ?_
      simp only [spec_OrderSign_l2_T, Tree.run, lt_nat, c2, decide_false, Bool.false_eq_true, if_false]
  | succ d ih =>
    intro j s hj
    have c1 : j < xs.length - (i + 1) := by omega
    have c2 : i + 1 + j < xs.length := by omega
    have e : nth (AM.sub xs ((i + 1 : Nat) : Int) (xs.length : Int)) j = nth xs (i + 1 + j) := by
      rw [nth_of _ _ (by omega), nth_of _ _ c2]
      simp [AM.sub]
    have w2 : IntKind.i64.wrap (((i + 1 + j : Nat) : Int) + 1) = ((i + 1 + (j + 1) : Nat) : Int) := by rw [w1 (show i + 1 + j ≤ 1000 by omega)]; rfl
    by_cases h : nth xs (i + 1 + j) < nth xs i
    · obtain ⟨r, g1, g2⟩ := ih (j + 1) (IntKind.i64.wrap (0 - s)) (by omega)
      refine ⟨r, ?_, ?_⟩
      · refine whileM_inl ?_ g1
        simp only [impl_orderSign_l2_T, Tree.run, lt_nat, inb_nat, hsl, c1, decide_true, if_true, Int.toNat_natCast, e, h, w1 (show j ≤ 1000 by omega)]
      · refine whileM_inl ?_ g2
        simp only [spec_OrderSign_l2_T, Tree.run, lt_nat, inb_nat, hi, c2, decide_true, if_true, Int.toNat_natCast, h, w2]
    · obtain ⟨r, g1, g2⟩ := ih (j + 1) s (by omega)
      refine ⟨r, ?_, ?_⟩
      · refine whileM_inl ?_ g1
        simp only [impl_orderSign_l2_T, Tree.run, lt_nat, inb_nat, hsl, c1, decide_true, if_true, Int.toNat_natCast, e, h, decide_false, Bool.false_eq_true, if_false, w1 (show j ≤ 1000 by omega)]
      · refine whileM_inl ?_ g2
        simp only [spec_OrderSign_l2_T, Tree.run, lt_nat, inb_nat, hi, c2, decide_true, if_true, Int.toNat_natCast, h, decide_false, Bool.false_eq_true, if_false, w2]
theorem signOut (xs : List Int) (hl : xs.length ≤ 12) : ∀ (d i : Nat) (s : Int), i + d = xs.length → ∃ r, impl_orderSign_l0_g xs (s, (i : Int)) = some r ∧ spec_OrderSign_l0_g xs (s, (i : Int)) = some r := by
  intro d
  induction d with
  | zero =>
    intro i s hi
    have c : ¬ i < xs.length := by omega
    refine ⟨s, ?_, ?_⟩
    · refine whileM_inr ?_
      simp only [impl_orderSign_l0_T, Tree.run, lt_nat, c, decide_false, Bool.false_eq_true, if_false]
    · refine whileM_inr ?_
      simp only [spec_OrderSign_l0_T, Tree.run, lt_nat, c, decide_false, Bool.false_eq_true, if_false]
  | succ d ih =>
    intro i s hi
    have c : i < xs.length := by omega
    have w2 := w1 (show i ≤ 1000 by omega)
    have so : sok ((i + 1 : Nat) : Int) (xs.length : Int) xs.length = true := sok_iff.2 ⟨by omega, by omega, by omega⟩
    have hsl : (AM.sub xs ((i + 1 : Nat) : Int) (xs.length : Int)).length = xs.length - (i + 1) := by rw [sub_length so]; simp
    obtain ⟨r1, g1, g2⟩ := signIn xs hl i c (BR.sub ((i + 1 : Nat) : Int) (xs.length : Int) (BR.root 0)) d 0 s (by omega)
    obtain ⟨r, k1, k2⟩ := ih (i + 1) r1 (by omega)
    have g1' : impl_orderSign_l2_g (nth xs i) (i : Int) (BR.sub ((i + 1 : Nat) : Int) (xs.length : Int) (BR.root 0)) (AM.sub xs ((i + 1 : Nat) : Int) (xs.length : Int)) (((xs.length - (i + 1)) : Nat) : Int) (s, (0 : Int)) = some r1 := g1
    have g2' : spec_OrderSign_l2_g xs (i : Int) (s, ((i + 1 : Nat) : Int)) = some r1 := g2
    refine ⟨r, ?_, ?_⟩
    · refine whileM_inl ?_ k1
      simp only [impl_orderSign_l0_T, Tree.run, lt_nat, inb_nat, c, decide_true, if_true, w2, so, hsl, Int.toNat_natCast, g1', Option.bind_some]
    · refine whileM_inl ?_ k2
      simp only [spec_OrderSign_l0_T, Tree.run, lt_nat, c, decide_true, if_true, w2, g2', Option.bind_some]
theorem detOut {n : Nat} {M : List Nat} {xs : List Int} (hn : n ≤ 12) (hM : M.length = n * n) : ∀ (d i : Nat) (s : Nat), i + d = n → ∃ r, impl_FactorDet_l0_g (n : Int) (diagL n M) (s, (i : Int)) = some r ∧ spec_FactorDet_l0_g n n M (s, (i : Int)) = some r := by
  intro d
  induction d with
  | zero =>
    intro i s hi
    have c : ¬ i < n := by omega
    refine ⟨s, ?_, ?_⟩
    · refine whileM_inr ?_
      simp only [impl_FactorDet_l0_T, Tree.run, lt_nat, c, decide_false, Bool.false_eq_true, if_false]
    · refine whileM_inr ?_
      simp only [spec_FactorDet_l0_T, Tree.run, lt_nat, c, decide_false, Bool.false_eq_true, if_false]
  | succ d ih =>
    intro i s hi
    have c : i < n := by omega
    have hl : (diagL n M).length = n := by simp [diagL]
    have e : nth (diagL n M) i = nth M (i * n + i) := nth_map_range _ _ _ c
    obtain ⟨r, k1, k2⟩ := ih (i + 1) (fmul .f32 s (nth M (i * n + i))) (by omega)
    refine ⟨r, ?_, ?_⟩
    · refine whileM_inl ?_ k1
      simp only [impl_FactorDet_l0_T, impl_mul_v, Tree.run, lt_nat, inb_nat, hl, c, decide_true, if_true, Int.toNat_natCast, e, w1 (show i ≤ 1000 by omega)]
    · refine whileM_inl ?_ k2
      simp only [spec_FactorDet_l0_T, Tree.run, lt_nat, c, decide_true, if_true, atS c c hn hn hM, Option.bind_some, w1 (show i ≤ 1000 by omega)]
theorem fd_both (x0 x1 : Int) (x2 : List Nat) (x3 : List Int) (h2 : x2.length ≤ maxN) (h3 : x3.length ≤ maxN) :
    ∃ r, impl_FactorDet_g x0 x1 x2 x3 = some r ∧ spec_FactorDet_g x0 x1 x2 x3 = some r := by
  have vI := facI x0 x1 x2 x3 h2
  have vS := facS x0 x1 x2 x3 h2
  have oS := orderS x3
  cases hv : facB x0 x1 x2 x3 with
  | false =>
    rw [hv] at vI vS
    refine ⟨.inl (), by simp only [impl_FactorDet_g, impl_FactorDet_T, Tree.run, vI, Option.bind_some, Bool.not_false, if_true], ?_⟩
    cases ho : (decide (1 ≤ (x3.length : Int)) && decide ((x3.length : Int) ≤ 12) && PM.permB x3) with
    | false =>
      rw [ho] at oS
      have sS : spec_OrderSign_g x3 = some (.inl ()) := by simp only [spec_OrderSign_g, spec_OrderSign_T, Tree.run, oS, Option.bind_some, Bool.not_false, if_true]
      simp only [spec_FactorDet_g, spec_FactorDet_T, Tree.run, sS, vS, Option.bind_some, Bool.not_false, if_true]
    | true =>
      rw [ho] at oS
      obtain ⟨_, o2, _⟩ := ord_shape ho
      obtain ⟨r, _, g2⟩ := signOut x3 o2 x3.length 0 1 (by omega)
      have sS : spec_OrderSign_g x3 = some (.inr r) := by
        have g2' : spec_OrderSign_l0_g x3 ((1 : Int), (0 : Int)) = some r := g2
        simp only [spec_OrderSign_g, spec_OrderSign_T, Tree.run, oS, g2', Option.bind_some, Bool.not_true, Bool.false_eq_true, if_false, if_true]
      simp only [spec_FactorDet_g, spec_FactorDet_T, Tree.run, sS, vS, Option.bind_some, Bool.not_false, if_true]
  | true =>
    have hv0 := hv
    rw [hv] at vI vS
    obtain ⟨n, rfl, rfl, n1, n2, hl, _, _, hx, _⟩ := fac_shape hv
    have ho : (decide (1 ≤ (x3.length : Int)) && decide ((x3.length : Int) ≤ 12) && PM.permB x3) = true := by
      unfold facB ordB at hv0
      simp only [Bool.and_eq_true] at hv0
      simp only [Bool.and_eq_true]
      exact hv0.2.2.1
    rw [ho] at oS
    obtain ⟨r, g1, g2⟩ := signOut x3 (by omega) x3.length 0 1 (by omega)
    have sS : spec_OrderSign_g x3 = some (.inr r) := by
      have g2' : spec_OrderSign_l0_g x3 ((1 : Int), (0 : Int)) = some r := g2
      simp only [spec_OrderSign_g, spec_OrderSign_T, Tree.run, oS, g2', Option.bind_some, Bool.not_true, Bool.false_eq_true, if_false, if_true]
    have sI : impl_orderSign_g x3 = some r := by
      have g1' : impl_orderSign_l0_g x3 ((1 : Int), (0 : Int)) = some r := g1
      simp only [impl_orderSign_g, impl_orderSign_T, Tree.run, g1', Option.bind_some, if_true]
    obtain ⟨t, k1, k2⟩ := detOut (xs := x3) n2 hl n 0 (fofint .f32 r) (by omega)
    have k1' : impl_FactorDet_l0_g (n : Int) (diagL n x2) (fofint .f32 r, (0 : Int)) = some t := k1
    have k2' : spec_FactorDet_l0_g n n x2 (fofint .f32 r, (0 : Int)) = some t := k2
    have hdl : (diagL n x2).length = n := by simp [diagL]
    have eI : impl_finite_v t = if sfin t = true then .inr t else .inl () := by
      unfold impl_finite_v
      rw [finI]
      cases sfin t <;> rfl
    have eS : spec_l02Number_v t = if sfin t = true then .inr t else .inl () := by
      unfold spec_l02Number_v
      rw [finS]
      cases sfin t <;> rfl
    cases ht : sfin t with
    | false =>
      rw [ht] at eI eS
      simp only [Bool.false_eq_true, if_false] at eI eS
      exact ⟨.inl (), by simp only [impl_FactorDet_g, impl_FactorDet_T, Tree.run, vI, sI, middleI n2 hl, hdl, k1', eI, Option.bind_some, Bool.not_true, Bool.false_eq_true, if_false, if_true], by simp only [spec_FactorDet_g, spec_FactorDet_T, Tree.run, sS, vS, k2', eS, Option.bind_some, Bool.not_true, Bool.false_eq_true, if_false, if_true]⟩
    | true =>
      rw [ht] at eI eS
      simp only [if_true] at eI eS
      exact ⟨.inr t, by simp only [impl_FactorDet_g, impl_FactorDet_T, Tree.run, vI, sI, middleI n2 hl, hdl, k1', eI, Option.bind_some, Bool.not_true, Bool.false_eq_true, if_false, if_true], by simp only [spec_FactorDet_g, spec_FactorDet_T, Tree.run, sS, vS, k2', eS, Option.bind_some, Bool.not_true, Bool.false_eq_true, if_false, if_true]⟩
theorem fd_law (x0 : Int) (x1 : Int) (x2 : List Nat) (x3 : List Int) (h0 : -9223372036854775808 ≤ x0 ∧ x0 < 9223372036854775808) (h1 : -9223372036854775808 ≤ x1 ∧ x1 < 9223372036854775808) (h2 : x2.length ≤ maxN) (h3 : x3.length ≤ maxN) : laws_FnExactFactorDet_g x0 x1 x2 x3 = some true := by
  have q2 := h2
  have q3 := h3
  unfold maxN at q2 q3
  obtain ⟨r, i1, i2⟩ := fd_both x0 x1 x2 x3 h2 h3
  cases z0 : decide (laws_szFactor_v x2 x3 (1048576) < 0)
  case true => simp only [laws_FnExactFactorDet_g, laws_FnExactFactorDet_T, Tree.run, z0, decide_false, Bool.false_eq_true, if_false, if_true] <;> simp [Tree.run, z0]
  cases r with
  | inl u =>
    simp only [laws_FnExactFactorDet_g, laws_FnExactFactorDet_T, Tree.run, i1, i2, same_self, toFa_ok x0 x1 x2 x3 h2 h3, eqFa_self x0 x1 x2 x3 h2 h3, z0, Option.bind_some, Bool.false_eq_true, if_false, if_true, decide_true, Bool.not_true, Bool.not_false, beq_self_eq_true, marks_length, marksI_length]
    first | done | simp [Tree.run]
  | inr f0 =>
    simp only [laws_FnExactFactorDet_g, laws_FnExactFactorDet_T, Tree.run, i1, i2, same_self, toFa_ok x0 x1 x2 x3 h2 h3, eqFa_self x0 x1 x2 x3 h2 h3, z0, Option.bind_some, Bool.false_eq_true, if_false, if_true, decide_true, Bool.not_true, Bool.not_false, beq_self_eq_true, marks_length, marksI_length]
    first | done | simp [Tree.run]
theorem fd_lawL (x0 : Int) (x1 : Int) (x2 : Nat) (x3 : Nat) (h0 : -9223372036854775808 ≤ x0 ∧ x0 < 9223372036854775808) (h1 : -9223372036854775808 ≤ x1 ∧ x1 < 9223372036854775808) (h2 : x2 < 9223372036854775808) (h3 : x3 < 9223372036854775808) (big : maxN < x2 ∨ maxN < x3) : laws_FnExactFactorDet_len_g x2 x3 = some true := by
  have big0 := big
  unfold maxN at big
  have e : decide (laws_szFactor_len_v x2 x3 (1048576) < 0) = true := szFa_len x2 x3 (1048576) h2 h3 (by omega) (by omega) (by unfold maxN; omega)
  simp [laws_FnExactFactorDet_len_g, laws_FnExactFactorDet_len_T, Tree.run, e]
end Go.Proofs.Ytjadfgeemfdbmaa.AM
