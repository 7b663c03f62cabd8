/- The law OrderRows: both sides, and the law. -/
import Derived.Test.YtjadfgeemfdbmaaOR0
set_option linter.unusedSimpArgs false
set_option linter.unusedVariables false
set_option maxHeartbeats 1000000
namespace Go.Proofs.Ytjadfgeemfdbmaa.AM

theorem ordRow {m : Nat} {M : List Nat} {xs : List Int} {n i k : Nat} (ho : OrdOk xs) (hx : xs.length = n) (hi : i < n) (hk : k < m) (hn : n ≤ 12) (hm : m ≤ 12) (hM : M.length = n * m) :
    impl_OrderRows_1_g (i : Int) (k : Int) m M xs = some (nth M ((nth xs i).toNat * m + k)) := by
  obtain ⟨h1, h2⟩ := ho.inr i (by omega)
  obtain ⟨r, hr⟩ : ∃ r : Nat, nth xs i = r := ⟨(nth xs i).toNat, by omega⟩
  have hrl : r < n := by omega
  have hin : inb (i : Int) xs.length = true := by rw [inb_nat]; simp; omega
  simp only [impl_OrderRows_1_g, impl_OrderRows_1_T, Tree.run, hin, Int.toNat_natCast, hr, atI hrl hk hn hm hM, Option.bind_some, if_true]
noncomputable def orderL (n m : Nat) (M : List Nat) (xs : List Int) : List Nat := rc n m fun i k => nth M ((nth xs i).toNat * m + k)
theorem orI {n m : Nat} {M : List Nat} {xs : List Int} (ho : OrdOk xs) (hx : xs.length = n) (hn : n ≤ 12) (hm : m ≤ 12) (hM : M.length = n * m) : impl_made_g n m n m M xs = some ((n : Int), (m : Int), orderL n m M xs) := by
  have : impl_made_l0_g n m n m M xs n m ((0 : Int), List.replicate (n * m) 0) = some (orderL n m M xs) := by
    refine made_gen (T0 := fun s => (impl_made_l0_T n m n m M xs n m s).run) (T2 := fun i s => (impl_made_l2_T m m M xs i n m s).run) (n := n) (m := m) ?_ ?_ ?_ ?_
    · intro i k s hi hk hs
      simp only [impl_made_l2_T, Tree.run, lt_nat, hk, decide_true, if_true, ordRow ho hx hi hk hn hm hM, setR hi hk hn hm hs, Option.bind_some, atw hi hk hn hm, Int.toNat_natCast, List.length_set, w1 (show k ≤ 1000 by omega)]
    · intro i s hi; simp [impl_made_l2_T, Tree.run]
    · intro i s s' hi h
      have h' : impl_made_l2_g m m M xs i n m ((0 : Int), s) = some s' := h
      simp only [impl_made_l0_T, Tree.run, lt_nat, hi, decide_true, if_true, h', Option.bind_some, w1 (show i ≤ 1000 by omega)]
    · intro s; simp [impl_made_l0_T, Tree.run]
  simp only [impl_made_g, impl_made_T, Tree.run, newR hn hm, mulw hn hm, Int.toNat_natCast, this, Option.bind_some, if_true]
theorem orS {n m : Nat} {M : List Nat} {xs : List Int} (ho : OrdOk xs) (hx : xs.length = n) (h1 : 1 ≤ m) (hn : n ≤ 12) (hm : m ≤ 12) (hM : M.length = n * m) : spec_OrderRows_l0_g m M xs ((0 : Int), ([] : List Nat)) = some (orderL n m M xs) := by
  have e0 : ((0 : Int), ([] : List Nat)) = (((0 : Nat) : Int), orderL 0 m M xs) := by simp [orderL, rc]
  rw [e0]
  refine whileM_fix (T := fun s => (spec_OrderRows_l0_T m M xs s).run) (n := n) (fun i => ((i : Int), orderL i m M xs)) ?_ ?_
  · intro i hi
    obtain ⟨g1, g2⟩ := ho.inr i (by omega)
    obtain ⟨r, hr⟩ : ∃ r : Nat, nth xs i = r := ⟨(nth xs i).toNat, by omega⟩
    have hrl : r < n := by omega
    have hb : n * m ≤ maxN := by have := le144 hn hm; unfold maxN; omega
    obtain ⟨k1, k2, k3, k4⟩ := row_wrap (m := m) hrl hb
    have hl : i < xs.length := by omega
    have eq : orderL i m M xs ++ AM.sub M ((r * m : Nat) : Int) (((r + 1) * m : Nat) : Int) = orderL (i + 1) m M xs := by
      unfold orderL
      rw [rc_succ]
      congr 1
      have := rowL_eq hrl hn hm hM
      unfold rowL at this
      rw [this, hr]
      simp
    have hf : fits (orderL (i + 1) m M xs).length = true := fits_iff.2 (by
      have : (orderL (i + 1) m M xs).length = (i + 1) * m := by simp [orderL]
      have := le144 (show i + 1 ≤ 12 by omega) hm
      unfold maxN; omega)
    simp only [spec_OrderRows_l0_T, Tree.run, lt_nat, inb_nat, hl, decide_true, if_true, Int.toNat_natCast, hr, k1, k2, row_sok hrl hb hM, eq, hf, w1 (show i ≤ 1000 by omega)]
  · simp [spec_OrderRows_l0_T, Tree.run, hx]
theorem or_both (x0 x1 : Int) (x2 : List Nat) (x3 : List Int) (h2 : x2.length ≤ maxN) (h3 : x3.length ≤ maxN) :
    ∃ r, impl_OrderRows_g x0 x1 x2 x3 = some r ∧ spec_OrderRows_g x0 x1 x2 x3 = some r ∧ ∀ d, r = .inr d → d.2.2.length ≤ 144 := by
  have vI := vmI x0 x1 x2 h2
  have vS := vmS x0 x1 x2 h2
  have oI := orderI x3
  have oS := orderS x3
  cases hv : vm x0 x1 x2 with
  | false =>
    rw [hv] at vI vS
    exact ⟨.inl (), by simp only [impl_OrderRows_g, impl_OrderRows_T, Tree.run, vI, Option.bind_some, Bool.not_false, if_true], by simp only [spec_OrderRows_g, spec_OrderRows_T, Tree.run, vS, Option.bind_some, Bool.not_false, if_true], fun d h => by cases h⟩
  | true =>
  rw [hv] at vI vS
  obtain ⟨n, m, rfl, rfl, n1, n2, m1, m2, hl, _⟩ := vm_shape hv
  cases ho : (decide (1 ≤ (x3.length : Int)) && decide ((x3.length : Int) ≤ 12) && PM.permB x3) with
  | false =>
    rw [ho] at oI oS
    exact ⟨.inl (), by simp only [impl_OrderRows_g, impl_OrderRows_T, Tree.run, vI, oI, Option.bind_some, Bool.not_true, Bool.not_false, Bool.false_eq_true, if_false, if_true], by simp only [spec_OrderRows_g, spec_OrderRows_T, Tree.run, vS, oS, Option.bind_some, Bool.not_true, Bool.not_false, Bool.false_eq_true, if_false, if_true], fun d h => by cases h⟩
  | true =>
  rw [ho] at oI oS
  obtain ⟨_, _, ok⟩ := ord_shape ho
  by_cases hx : x3.length = n
  case neg =>
    have c1 : decide (impl_lengthI_v x3 = (n : Int)) = false := decide_eq_false (fun h => hx (Int.ofNat.inj h))
    have c2 : decide ((x3.length : Int) = (n : Int)) = false := decide_eq_false (fun h => hx (Int.ofNat.inj h))
    exact ⟨.inl (), by simp only [impl_OrderRows_g, impl_OrderRows_T, Tree.run, vI, oI, c1, Option.bind_some, Bool.not_true, Bool.not_false, Bool.false_eq_true, if_false, if_true], by simp only [spec_OrderRows_g, spec_OrderRows_T, Tree.run, vS, oS, c2, Option.bind_some, Bool.not_true, Bool.not_false, Bool.false_eq_true, if_false, if_true], fun d h => by cases h⟩
  have c1 : decide (impl_lengthI_v x3 = (n : Int)) = true := decide_eq_true (by show (x3.length : Int) = n; omega)
  have c2 : decide ((x3.length : Int) = (n : Int)) = true := decide_eq_true (by omega)
  have mI := orI ok hx n2 m2 hl
  have mS := orS ok hx m1 n2 m2 hl
  refine ⟨.inr ((n : Int), (m : Int), orderL n m x2 x3), ?_, ?_, fun d h => ?_⟩
  · simp only [impl_OrderRows_g, impl_OrderRows_T, Tree.run, vI, oI, c1, mI, Option.bind_some, Bool.not_true, Bool.not_false, Bool.false_eq_true, if_false, if_true]
  · simp only [spec_OrderRows_g, spec_OrderRows_T, Tree.run, vS, oS, c2, mS, spec_l02Blank_v, Option.bind_some, Bool.not_true, Bool.not_false, Bool.false_eq_true, if_false, if_true]
  · cases h
    have : (orderL n m x2 x3).length = n * m := by simp [orderL]
    have := le144 n2 m2
    simp only; omega
theorem or_law (x0 : Int) (x1 : Int) (x2 : List Nat) (x3 : List Int) (h0 : -9223372036854775808 ≤ x0 ∧ x0 < 9223372036854775808) (h1 : -9223372036854775808 ≤ x1 ∧ x1 < 9223372036854775808) (h2 : x2.length ≤ maxN) (h3 : x3.length ≤ maxN) : laws_FnExactOrderRows_g x0 x1 x2 x3 = some true := by
  have q2 := h2
  have q3 := h3
  unfold maxN at q2 q3
  obtain ⟨r, i1, i2, i3⟩ := or_both x0 x1 x2 x3 h2 h3
  have enM := eqM_self 0 0 [] (by simp [maxN])
  have hnM := heldM_nil 1 (by omega) (by omega)
  have m0 := markM_ok x2 (1) h2 (by omega) (by omega)
  have m3 := markI_ok x3 (1 + x2.length) h3 (by omega) (by omega)
  have g1 : decide (((1 : Int) + x2.length + x3.length : Int) < 0) = false := by simp; omega
  by_cases c3 : (1048576 : Int) < x3.length
  · simp [laws_FnExactOrderRows_g, laws_FnExactOrderRows_T, Tree.run, c3]
  cases z0 : decide (laws_szMatrix_v x2 (1048576) < 0)
  case true => simp only [laws_FnExactOrderRows_g, laws_FnExactOrderRows_T, Tree.run, c3, z0, decide_false, Bool.false_eq_true, if_false, if_true] <;> simp [Tree.run, z0]
  have d3 : decide ((1048576 : Int) < x3.length) = false := by simpa using c3
  cases r with
  | inl u =>
    simp only [laws_FnExactOrderRows_g, laws_FnExactOrderRows_T, Tree.run, i1, i2, enM, hnM, markM_nil, m0, toM_ok x0 x1 x2 h2, eqM_self x0 x1 x2 h2, m3, toI_ok x3 h3, eqI_self x3 h3, g1, z0, d3, Option.bind_some, Bool.false_eq_true, if_false, if_true, decide_true, Bool.not_true, Bool.not_false, beq_self_eq_true, marks_length, marksI_length]
    first | done | simp [Tree.run]
  | inr d =>
    obtain ⟨a0, b0, d0_⟩ := d
    have hd := i3 _ rfl
    simp only at hd
    have e0 := hd
    have hd0 : d0_.length ≤ maxN := by unfold maxN; omega
    have md0 := markM_ok d0_ (1) hd0 (by omega) (by omega)
    have hl0 := heldM_ok (1) d0_.length hd0 (by omega) (by omega)
    have g20 : decide (((1 : Int) + d0_.length : Int) < 0) = false := by simp; omega
    simp only [laws_FnExactOrderRows_g, laws_FnExactOrderRows_T, Tree.run, i1, i2, enM, hnM, markM_nil, m0, toM_ok x0 x1 x2 h2, eqM_self x0 x1 x2 h2, m3, toI_ok x3 h3, eqI_self x3 h3, g1, z0, d3, md0, hl0, g20, eqM_self a0 b0 d0_ hd0, Option.bind_some, Bool.false_eq_true, if_false, if_true, decide_true, Bool.not_true, Bool.not_false, beq_self_eq_true, marks_length, marksI_length]
    first | done | simp [Tree.run]
theorem or_lawL (x0 : Int) (x1 : Int) (x2 : Nat) (x3 : Nat) (h0 : -9223372036854775808 ≤ x0 ∧ x0 < 9223372036854775808) (h1 : -9223372036854775808 ≤ x1 ∧ x1 < 9223372036854775808) (h2 : x2 < 9223372036854775808) (h3 : x3 < 9223372036854775808) (big : maxN < x2 ∨ maxN < x3) : laws_FnExactOrderRows_len_g x2 x3 = some true := by
  have big0 := big
  unfold maxN at big
  by_cases c3 : (1048576 : Int) < (x3 : Int)
  · simp [laws_FnExactOrderRows_len_g, laws_FnExactOrderRows_len_T, Tree.run, c3]
  have e := szM_len1 x2 (1048576) h2 (by omega) (by omega) (by omega)
  simp [laws_FnExactOrderRows_len_g, laws_FnExactOrderRows_len_T, Tree.run, c3, e]
end Go.Proofs.Ytjadfgeemfdbmaa.AM
