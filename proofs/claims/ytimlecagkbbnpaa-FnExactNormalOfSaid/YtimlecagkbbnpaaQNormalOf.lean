/- The law NormalOf: both sides, and the law. -/
import Derived.Test.YtimlecagkbbnpaaNO1
set_option linter.unusedSimpArgs false
set_option linter.unusedVariables false
set_option maxHeartbeats 1000000
namespace Go.Proofs.Ytimlecagkbbnpaa.AM

theorem acc2 {T1 T2 : Int × Int → Option ((Int × Int) ⊕ Int)} {L : Nat} {f : Nat → Prop}
    (step : ∀ (j : Nat) (d : Int), j < L → i64 d → ∃ r, T1 (d, (j : Int)) = some (.inl (r, ((j + 1 : Nat) : Int))) ∧ T2 (d, (j : Int)) = some (.inl (r, ((j + 1 : Nat) : Int))) ∧ i64 r ∧ (r = 0 ↔ d = 0 ∧ f j))
    (stop : ∀ d, T1 (d, (L : Int)) = some (.inr d) ∧ T2 (d, (L : Int)) = some (.inr d)) :
    ∀ (e j : Nat) (d : Int), j + e = L → i64 d → ∃ r, whileM T1 (d, (j : Int)) = some r ∧ whileM T2 (d, (j : Int)) = some r ∧ i64 r ∧ (r = 0 ↔ d = 0 ∧ ∀ q, j ≤ q → q < L → f q)
  | 0, j, d, h, hd => by
    have : j = L := by omega
    subst this
    exact ⟨d, wi_inr (stop d).1, wi_inr (stop d).2, hd, ⟨fun h => ⟨h, fun q h1 h2 => by omega⟩, fun h => h.1⟩⟩
  | e + 1, j, d, h, hd => by
    obtain ⟨r, h1, h2, h3, h4⟩ := step j d (by omega) hd
    obtain ⟨z, k1, k2, k3, k4⟩ := acc2 step stop e (j + 1) r (by omega) h3
    refine ⟨z, wi_inl h1 k1, wi_inl h2 k2, k3, ?_⟩
    rw [k4, h4]
    constructor
    · rintro ⟨⟨a, b⟩, c⟩
      refine ⟨a, fun q q1 q2 => ?_⟩
      by_cases e : q = j
      · rw [e]; exact b
      · exact c q (by omega) q2
    · rintro ⟨a, b⟩
      exact ⟨⟨a, b j (Nat.le_refl _) (by omega)⟩, fun q q1 q2 => b q (by omega) q2⟩
theorem nth_range' {L j : Nat} (h : j < L) : nth (List.range' 1 L) j = j + 1 := by
  rw [nth_of _ _ (by simpa using h)]
  simp [List.getElem_range', Nat.add_comm]
theorem no4 {n m k : Nat} {M : List Int} (hn : n ≤ 4) (hm : m ≤ 4) (hM : M.length = n * m) (hk : k < 5) (b1 b2 : Int) (o1 o2 : List Int) {i : Nat} (hi : i < (chs n k).length) {d : Int} (hd : i64 d) :
    ∃ r, impl_NormalOf_l4_g n m M b1 k (i + 1) ((chs n k).length : Int) i ((chs m k).length : Int) o1 (chs n k) (List.range' 1 (chs n k).length) (chs m k) (List.range' 1 (chs m k).length) (d, (0 : Int)) = some r ∧
      spec_NormalOf_l4_g n m M b2 k i o2 (chs n k) (List.range' 1 (chs n k).length) (chs m k) (List.range' 1 (chs m k).length) (d, (0 : Int)) = some r ∧ i64 r ∧
      (r = 0 ↔ d = 0 ∧ ∀ q, q < (chs m k).length → mnr m M (nth (chs n k) i) (nth (chs m k) q) = 0) := by
  obtain ⟨r, h1, h2, h3, h4⟩ := acc2 (T1 := fun s => (impl_NormalOf_l4_T n m M b1 k (i + 1) ((chs n k).length : Int) i ((chs m k).length : Int) o1 (chs n k) (List.range' 1 (chs n k).length) (chs m k) (List.range' 1 (chs m k).length) s).run)
    (T2 := fun s => (spec_NormalOf_l4_T n m M b2 k i o2 (chs n k) (List.range' 1 (chs n k).length) (chs m k) (List.range' 1 (chs m k).length) s).run) (L := (chs m k).length) (f := fun q => mnr m M (nth (chs n k) i) (nth (chs m k) q) = 0) (by
      intro j d hj hd
      have mR : nth (chs n k) i ∈ chs n k := by rw [nth_of _ _ hi]; exact List.getElem_mem _
      have mC : nth (chs m k) j ∈ chs m k := by rw [nth_of _ _ hj]; exact List.getElem_mem _
      obtain ⟨r1, r2⟩ := ch_mem (show n < 5 by omega) hk mR
      obtain ⟨c1, c2⟩ := ch_mem (show m < 5 by omega) hk mC
      obtain ⟨g1, g2⟩ := mn4 hn hm hM (R := nth (chs n k) i) (C := nth (chs m k) j) (by omega) (by omega) r2 c2
      obtain ⟨r, e1, e2, e3, e4⟩ := gcdE hd (mnr_i64 m M (nth (chs n k) i) (nth (chs m k) j))
      have q1 : decide ((j : Int) < ((chs m k).length : Int)) = true := decide_eq_true (by omega)
      have q2 : inb (j : Int) (chs m k).length = true := inb_iff.2 ⟨by omega, by omega⟩
      have q3 : inb (i : Int) (chs n k).length = true := inb_iff.2 ⟨by omega, by omega⟩
      have q4 : nth (List.range' 1 (chs m k).length) j = j + 1 := nth_range' hj
      have q5 : nth (List.range' 1 (chs n k).length) i = i + 1 := nth_range' hi
      have q7 : (chs m k).length ≤ 16 := by
        have : (chs m k).length ≤ ((List.range (2 ^ m)).map bits).length := List.length_filter_le _ _
        rw [List.length_map, List.length_range] at this
        exact Nat.le_trans this (pow16 (by omega))
      have q6 := w1 (show j ≤ 1000 by omega)
      refine ⟨r, ?_, ?_, e3, e4⟩
      · simp only [impl_NormalOf_l4_T, Tree.run, List.length_range', q1, q2, Int.toNat_natCast, q4, nget, g1, e1, q6, Option.bind_some, if_true]
      · simp only [spec_NormalOf_l4_T, Tree.run, List.length_range', q1, q2, q3, Int.toNat_natCast, q4, q5, nget, g2, e2, q6, Option.bind_some, if_true]) (by
      intro d
      have q1 : decide (((chs m k).length : Int) < ((chs m k).length : Int)) = false := decide_eq_false (by omega)
      exact ⟨by simp only [impl_NormalOf_l4_T, Tree.run, q1, Bool.false_eq_true, if_false], by simp only [spec_NormalOf_l4_T, Tree.run, List.length_range', q1, Bool.false_eq_true, if_false]⟩) (chs m k).length 0 d (Nat.zero_add _) hd
  exact ⟨r, h1, h2, h3, by rw [h4]; exact ⟨fun h => ⟨h.1, fun q hq => h.2 q (Nat.zero_le _) hq⟩, fun h => ⟨h.1, fun q _ hq => h.2 q hq⟩⟩⟩
theorem no2 {n m k : Nat} {M : List Int} (hn : n ≤ 4) (hm : m ≤ 4) (hM : M.length = n * m) (hk : k < 5) (b1 b2 : Int) (o1 o2 : List Int) :
    ∃ r, impl_NormalOf_l2_g n m M b1 k ((chs n k).length : Int) o1 (chs n k) (List.range' 1 (chs n k).length) ((0 : Int), (0 : Int)) = some r ∧
      spec_NormalOf_l2_g n m M b2 k o2 (chs n k) (List.range' 1 (chs n k).length) (chs m k) (List.range' 1 (chs m k).length) ((0 : Int), (0 : Int)) = some r ∧ i64 r ∧ (r = 0 ↔ allZ n m k M) := by
  obtain ⟨r, h1, h2, h3, h4⟩ := acc2 (T1 := fun s => (impl_NormalOf_l2_T n m M b1 k ((chs n k).length : Int) o1 (chs n k) (List.range' 1 (chs n k).length) s).run)
    (T2 := fun s => (spec_NormalOf_l2_T n m M b2 k o2 (chs n k) (List.range' 1 (chs n k).length) (chs m k) (List.range' 1 (chs m k).length) s).run) (L := (chs n k).length) (f := fun i => ∀ q, q < (chs m k).length → mnr m M (nth (chs n k) i) (nth (chs m k) q) = 0) (by
      intro i d hi hd
      obtain ⟨r, e1, e2, e3, e4⟩ := no4 hn hm hM hk b1 b2 o1 o2 hi hd
      have cI := chI (n := m) (k := k) (by omega)
      have q1 : decide ((i : Int) < ((chs n k).length : Int)) = true := decide_eq_true (by omega)
      have q3 : inb (i : Int) (chs n k).length = true := inb_iff.2 ⟨by omega, by omega⟩
      have q5 : nth (List.range' 1 (chs n k).length) i = i + 1 := nth_range' hi
      have q7 : (chs n k).length ≤ 16 := by
        have : (chs n k).length ≤ ((List.range (2 ^ n)).map bits).length := List.length_filter_le _ _
        rw [List.length_map, List.length_range] at this
        exact Nat.le_trans this (pow16 (by omega))
      have q6 := w1 (show i ≤ 1000 by omega)
      refine ⟨r, ?_, ?_, e3, e4⟩
      · simp only [impl_NormalOf_l2_T, Tree.run, List.length_range', q1, q3, Int.toNat_natCast, q5, cI, e1, q6, Option.bind_some, if_true]
      · simp only [spec_NormalOf_l2_T, Tree.run, List.length_range', q1, e2, q6, Option.bind_some, if_true]) (by
      intro d
      have q1 : decide (((chs n k).length : Int) < ((chs n k).length : Int)) = false := decide_eq_false (by omega)
      exact ⟨by simp only [impl_NormalOf_l2_T, Tree.run, q1, Bool.false_eq_true, if_false], by simp only [spec_NormalOf_l2_T, Tree.run, List.length_range', q1, Bool.false_eq_true, if_false]⟩) (chs n k).length 0 0 (Nat.zero_add _) ⟨by omega, by omega⟩
  refine ⟨r, h1, h2, h3, ?_⟩
  rw [h4]
  constructor
  · rintro ⟨_, h⟩ R hR C hC
    obtain ⟨i, hi, rfl⟩ := List.getElem_of_mem hR
    obtain ⟨q, hq, rfl⟩ := List.getElem_of_mem hC
    have := h i (Nat.zero_le _) hi q hq
    rwa [nth_of _ _ hi, nth_of _ _ hq] at this
  · intro h
    refine ⟨rfl, fun i _ hi q hq => ?_⟩
    rw [nth_of _ _ hi, nth_of _ _ hq]
    exact h _ (List.getElem_mem _) _ (List.getElem_mem _)
theorem no0 {n m : Nat} {M : List Int} (hn : n ≤ 4) (hm : m ≤ 4) (hM : M.length = n * m) (i0 : imin (n : Int) (m : Int) = ((min n m : Nat) : Int)) (s0 : spec_l00Min_v (n : Int) (m : Int) = ((min n m : Nat) : Int)) :
    ∀ (e k : Nat) (bf la : Int) (o : List Int), k + e = min n m + 1 → 1 ≤ k → o.length = k - 1 → la ≠ 0 → (bf = la ∨ (2 ≤ k ∧ allZ n m (k - 1) M)) →
      ∃ r, impl_NormalOf_l0_g n m M (bf, (k : Int), o) = some r ∧ spec_NormalOf_l0_g n m M (la, (k : Int), o) = some r ∧ r.length ≤ 1024 := by
  intro e
  induction e with
  | zero =>
    intro k bf la o h h1 ho hla hb
    have q1 : decide ((k : Int) ≤ ((min n m : Nat) : Int)) = false := decide_eq_false (by omega)
    exact ⟨o, wi_inr (T := fun s => (impl_NormalOf_l0_T n m M s).run) (by simp only [impl_NormalOf_l0_T, Tree.run, i0, q1, Bool.false_eq_true, if_false]), wi_inr (T := fun s => (spec_NormalOf_l0_T n m M s).run) (by simp only [spec_NormalOf_l0_T, Tree.run, s0, q1, Bool.false_eq_true, if_false]), by omega⟩
  | succ e ih =>
    intro k bf la o h h1 ho hla hb
    have q1 : decide ((k : Int) ≤ ((min n m : Nat) : Int)) = true := decide_eq_true (by omega)
    have cI := chI (n := n) (k := k) (by omega)
    have cS := chS (n := n) (k := k) (by omega)
    have cS' := chS (n := m) (k := k) (by omega)
    obtain ⟨r, e1, e2, e3, e4⟩ := no2 hn hm hM (show k < 5 by omega) bf la o o
    have q6 := w1 (show k ≤ 1000 by omega)
    have q7 : ∀ x : Int, fits (o ++ [x]).length = true := fun x => fitsN (by simp; omega)
    by_cases hr : r = 0
    · have dr : decide (r = 0) = true := decide_eq_true hr
      obtain ⟨z, z1, z2, z3⟩ := ih (k + 1) r la (o ++ [(0 : Int)]) (by omega) (by omega) (by simp; omega) hla (.inr ⟨by omega, by rw [Nat.add_sub_cancel]; exact e4.1 hr⟩)
      refine ⟨z, wi_inl (T := fun s => (impl_NormalOf_l0_T n m M s).run) ?_ z1, wi_inl (T := fun s => (spec_NormalOf_l0_T n m M s).run) ?_ z2, z3⟩
      · simp only [impl_NormalOf_l0_T, Tree.run, i0, q1, cI, List.length_range', e1, dr, q6, q7, Option.bind_some, if_true]
      · simp only [spec_NormalOf_l0_T, Tree.run, s0, q1, cS, cS', List.length_range', e2, dr, q6, q7, Option.bind_some, if_true]
    · have dr : decide (r = 0) = false := decide_eq_false hr
      have hbl : bf = la := by
        rcases hb with hb | ⟨k2, hb⟩
        · exact hb
        · refine absurd (e4.2 ?_) hr
          have := allZ_succ (show n < 5 by omega) (show m < 5 by omega) (show k - 1 < 4 by omega) hb
          rwa [Nat.sub_add_cancel h1] at this
      subst hbl
      have db : decide (bf = 0) = false := decide_eq_false hla
      obtain ⟨z, z1, z2, z3⟩ := ih (k + 1) r r (o ++ [IntKind.i64.wrap (Int.tdiv r bf)]) (by omega) (by omega) (by simp; omega) hr (.inl rfl)
      refine ⟨z, wi_inl (T := fun s => (impl_NormalOf_l0_T n m M s).run) ?_ z1, wi_inl (T := fun s => (spec_NormalOf_l0_T n m M s).run) ?_ z2, z3⟩
      · simp only [impl_NormalOf_l0_T, Tree.run, i0, q1, cI, List.length_range', e1, dr, db, q6, q7, Option.bind_some, if_true, Bool.not_false, Bool.false_eq_true, if_false]
      · simp only [spec_NormalOf_l0_T, Tree.run, s0, q1, cS, cS', List.length_range', e2, dr, db, q6, q7, Option.bind_some, if_true, Bool.not_false, Bool.false_eq_true, if_false]
theorem no_both (x0 x1 : Int) (x2 : List Int) (h2 : x2.length ≤ maxN) : ∃ r, impl_NormalOf_g x0 x1 x2 = some r ∧ spec_NormalOf_g x0 x1 x2 = some r ∧ ∀ d, r = .inr d → d.length ≤ 1024 := by
  have lI : impl_isLow_g x0 x1 x2 = some (whB 100 x0 x1 x2) := by
    simp only [impl_isLow_g, impl_isLow_T, Tree.run, whI 100 x0 x1 x2 h2 (by omega) (by omega), Option.bind_some]
  have lS : spec_l06Low_g x0 x1 x2 = some (whB 100 x0 x1 x2) := by
    simp only [spec_l06Low_g, spec_l06Low_T, Tree.run, whS 100 x0 x1 x2 h2 (by omega) (by omega), Option.bind_some]
  cases hv : whB 100 x0 x1 x2 with
  | false =>
    rw [hv] at lI lS
    exact ⟨.inl (), by simp only [impl_NormalOf_g, impl_NormalOf_T, Tree.run, lI, Option.bind_some, Bool.not_false, if_true], by simp only [spec_NormalOf_g, spec_NormalOf_T, Tree.run, lS, Option.bind_some, Bool.not_false, if_true], fun d h => by cases h⟩
  | true =>
  rw [hv] at lI lS
  obtain ⟨n, m, rfl, rfl, n1, n6, m1, m6, hl, hb⟩ := wh_shape hv
  by_cases h4 : 4 < n
  · have d4 : decide ((4 : Int) < (n : Int)) = true := decide_eq_true (by omega)
    exact ⟨.inl (), by simp only [impl_NormalOf_g, impl_NormalOf_T, Tree.run, lI, d4, Option.bind_some, Bool.not_true, Bool.false_eq_true, if_false, if_true], by simp only [spec_NormalOf_g, spec_NormalOf_T, Tree.run, lS, d4, Option.bind_some, Bool.not_true, Bool.false_eq_true, if_false, if_true], fun d h => by cases h⟩
  have d4 : decide ((4 : Int) < (n : Int)) = false := decide_eq_false (by omega)
  by_cases h5 : 4 < m
  · have d5 : decide ((4 : Int) < (m : Int)) = true := decide_eq_true (by omega)
    exact ⟨.inl (), by simp only [impl_NormalOf_g, impl_NormalOf_T, Tree.run, lI, d4, d5, Option.bind_some, Bool.not_true, Bool.false_eq_true, if_false, if_true], by simp only [spec_NormalOf_g, spec_NormalOf_T, Tree.run, lS, d4, d5, Option.bind_some, Bool.not_true, Bool.false_eq_true, if_false, if_true], fun d h => by cases h⟩
  have d5 : decide ((4 : Int) < (m : Int)) = false := decide_eq_false (by omega)
  have i0 : imin (n : Int) (m : Int) = ((min n m : Nat) : Int) := by unfold imin; omega
  have s0 : spec_l00Min_v (n : Int) (m : Int) = ((min n m : Nat) : Int) := by
    simp only [spec_l00Min_v]
    by_cases h : (n : Int) < (m : Int) <;> simp [h] <;> omega
  obtain ⟨r, e1, e2, e3⟩ := no0 (show n ≤ 4 by omega) (show m ≤ 4 by omega) hl i0 s0 (min n m) 1 1 1 [] (by omega) (Nat.le_refl _) rfl (by omega) (.inl rfl)
  have e1' : impl_NormalOf_l0_g n m x2 ((1 : Int), (1 : Int), ([] : List Int)) = some r := e1
  have e2' : spec_NormalOf_l0_g n m x2 ((1 : Int), (1 : Int), ([] : List Int)) = some r := e2
  exact ⟨.inr r, by simp only [impl_NormalOf_g, impl_NormalOf_T, Tree.run, lI, d4, d5, e1', Option.bind_some, Bool.not_true, Bool.false_eq_true, if_false, if_true], by simp only [spec_NormalOf_g, spec_NormalOf_T, Tree.run, lS, d4, d5, e2', Option.bind_some, Bool.not_true, Bool.false_eq_true, if_false, if_true], fun d h => by cases h; exact e3⟩
theorem nor (x0 : Int) (x1 : Int) (x2 : List Int) (h0 : -9223372036854775808 ≤ x0 ∧ x0 < 9223372036854775808) (h1 : -9223372036854775808 ≤ x1 ∧ x1 < 9223372036854775808) (h2 : x2.length ≤ maxN) : laws_FnExactNormalOf_g x0 x1 x2 = some true := by
  have q2 := h2
  unfold maxN at q2
  obtain ⟨r, i1, i2, i3⟩ := no_both x0 x1 x2 h2
  have enI := eqI_self [] (by simp [maxN])
  have hnI := heldI_nil 1 (by omega) (by omega)
  have m0 := markW_ok x2 (1) h2 (by omega) (by omega)
  have g1 : decide (((1 : Int) + x2.length : Int) < 0) = false := by simp; omega
  cases z0 : decide (laws_szWhole_v x2 (1048576) < 0)
  case true => simp only [laws_FnExactNormalOf_g, laws_FnExactNormalOf_T, Tree.run, z0, decide_false, Bool.false_eq_true, if_false, if_true] <;> simp [Tree.run, z0]
  cases r with
  | inl u =>
    simp only [laws_FnExactNormalOf_g, laws_FnExactNormalOf_T, Tree.run, i1, i2, enI, hnI, markI_nil, m0, toW_ok x0 x1 x2 h2, eqW_self x0 x1 x2 h2, g1, z0, Option.bind_some, Bool.false_eq_true, if_false, if_true, decide_true, Bool.not_true, Bool.not_false, beq_self_eq_true, marks_length, marksI_length]
    first | done | simp [Tree.run]
  | inr d0_ =>
    have hd := i3 _ rfl
    have e0 := hd
    have hd0 : d0_.length ≤ maxN := by unfold maxN; omega
    have md0 := markI_ok d0_ (1) hd0 (by omega) (by omega)
    have hl0 := heldI_ok (1) d0_.length hd0 (by omega) (by omega)
    have g20 : decide (((1 : Int) + d0_.length : Int) < 0) = false := by simp; omega
    simp only [laws_FnExactNormalOf_g, laws_FnExactNormalOf_T, Tree.run, i1, i2, enI, hnI, markI_nil, m0, toW_ok x0 x1 x2 h2, eqW_self x0 x1 x2 h2, g1, z0, md0, hl0, g20, eqI_self d0_ hd0, Option.bind_some, Bool.false_eq_true, if_false, if_true, decide_true, Bool.not_true, Bool.not_false, beq_self_eq_true, marks_length, marksI_length]
    first | done | simp [Tree.run]
theorem norL (x0 : Int) (x1 : Int) (x2 : Nat) (h0 : -9223372036854775808 ≤ x0 ∧ x0 < 9223372036854775808) (h1 : -9223372036854775808 ≤ x1 ∧ x1 < 9223372036854775808) (h2 : x2 < 9223372036854775808) (big : maxN < x2) : laws_FnExactNormalOf_len_g x2 = some true := by
  have big0 := big
  unfold maxN at big
  have e : decide (laws_szWhole_len_v x2 (1048576) < 0) = true := szW_len x2 (1048576) h2 (by omega) (by omega) (by unfold maxN; omega)
  simp [laws_FnExactNormalOf_len_g, laws_FnExactNormalOf_len_T, Tree.run, e]
end Go.Proofs.Ytimlecagkbbnpaa.AM
