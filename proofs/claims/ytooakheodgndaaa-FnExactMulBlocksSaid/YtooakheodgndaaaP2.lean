/- The product by blocks. -/
import Derived.Test.YtooakheodgndaaaM1
set_option linter.unusedSimpArgs false
set_option linter.unusedVariables false
namespace Go.Proofs.Ytooakheodgndaaa.AM

theorem imin_nat (a b : Nat) : imin (a : Int) (b : Int) = ((min a b : Nat) : Int) := by unfold imin; split <;> omega
/-- How many blocks there are. -/
def blkN (m z : Nat) : Nat := (m + z - 1) / z
theorem blkN_lt {m z b : Nat} (hz : 1 ≤ z) (h : b < blkN m z) : b * z < m := by
  have := (Nat.le_div_iff_mul_le (show 0 < z from hz)).1 (show b + 1 ≤ (m + z - 1) / z from h)
  rw [Nat.add_mul, Nat.one_mul] at this
  omega
theorem blkN_ge {m z : Nat} (hz : 1 ≤ z) : m ≤ blkN m z * z := by
  have h : ¬ blkN m z + 1 ≤ (m + z - 1) / z := by unfold blkN; omega
  rw [Nat.le_div_iff_mul_le (show 0 < z from hz), Nat.add_mul, Nat.one_mul] at h
  omega
/-- One sum by blocks. -/
noncomputable def blkS (m z : Nat) (f : Nat → Nat) : Nat := dotN (fun b => dotN (fun j => f (b * z + j)) (min m (b * z + z) - b * z)) (blkN m z)
noncomputable def blkL (n m q z : Nat) (A B : List Nat) : List Nat := rc n q fun i k => blkS m z fun j => fmul .f32 (nth A (i * m + j)) (nth B (j * q + k))
@[simp] theorem blkL_length (n m q z : Nat) (A B : List Nat) : (blkL n m q z A B).length = n * q := by simp [blkL]
theorem mbS {n m q z : Nat} {A B : List Nat} (hz1 : 1 ≤ z) (hz : z ≤ 12) (hn : n ≤ 12) (hm : m ≤ 12) (hq : q ≤ 12) (hA : A.length = n * m) (hB : B.length = m * q) : spec_l02Blocks_g n m A m q B z = some ((n : Int), (q : Int), blkL n m q z A B) := by
  have hb := le144 hn hq
  have : spec_l02Blocks_l0_g n m A m q B z ((0 : Int), ([] : List Nat)) = some (blkL n m q z A B) := by
    refine flat_gen (T := fun s => (spec_l02Blocks_l0_T n m A m q B z s).run) (n := n) (m := q) ?_ ?_
    · intro p s hp hs
      obtain ⟨r1, r2, r3⟩ := rc_of hp
      have hzq : decide ((q : Int) = 0) = false := by simp; omega
      obtain ⟨f, hf⟩ : ∃ f : Nat → Nat, f = fun j => fmul .f32 (nth A (p / q * m + j)) (nth B (j * q + p % q)) := ⟨_, rfl⟩
      have h4 : ∀ (b x : Nat), b * z < m → spec_l02Blocks_l4_g m A q B z (p : Int) x ((b * z : Nat) : Int) s ((0 : Nat), ((b * z : Nat) : Int)) = some (dotN (fun j => f (b * z + j)) (min m (b * z + z) - b * z)) := by
        intro b x hbz
        refine whileM_fix (T := fun s' => (spec_l02Blocks_l4_T m A q B z (p : Int) x ((b * z : Nat) : Int) s s').run) (n := min m (b * z + z) - b * z) (fun j => (dotN (fun j => f (b * z + j)) j, ((b * z + j : Nat) : Int))) ?_ ?_
        · intro j hj
          have e1 : IntKind.i64.wrap (((b * z : Nat) : Int) + (z : Int)) = ((b * z + z : Nat) : Int) := by rw [w64 (by omega) (by omega)]; omega
          have e2 : decide (b * z + j < b * z + z) = true := by simp; omega
          have e3 : b * z + j < m := by omega
          simp only [spec_l02Blocks_l4_T, Tree.run, e1, lt_nat, e2, e3, decide_true, if_true, hzq, Bool.not_false, tdivN, tmodN, wN (show p / q ≤ 4611686018427387904 by omega), atS r1 e3 hn hm hA, atS e3 r2 hm hq hB, Option.bind_some, w1 (show b * z + j ≤ 1000 by omega), dotN, hf]
          rfl
        · have e1 : IntKind.i64.wrap (((b * z : Nat) : Int) + (z : Int)) = ((b * z + z : Nat) : Int) := by rw [w64 (by omega) (by omega)]; omega
          simp only [spec_l02Blocks_l4_T, Tree.run, e1, lt_nat]
          by_cases hc : b * z + (min m (b * z + z) - b * z) < b * z + z
          · have : ¬ b * z + (min m (b * z + z) - b * z) < m := by omega
            simp only [hc, this, decide_true, decide_false, if_true, Bool.false_eq_true, if_false]
          · simp only [hc, decide_false, Bool.false_eq_true, if_false]
      have h2 : spec_l02Blocks_l2_g n m A m q B z (p : Int) s ((0 : Nat), (0 : Int)) = some (blkS m z f) := by
        refine Eq.trans ?_ (whileM_fix (T := fun s' => (spec_l02Blocks_l2_T n m A m q B z (p : Int) s s').run) (n := blkN m z) (r := blkS m z f) (fun b => (dotN (fun b => dotN (fun j => f (b * z + j)) (min m (b * z + z) - b * z)) b, ((b * z : Nat) : Int))) ?_ ?_)
        · simp [spec_l02Blocks_l2_g, dotN]
        · intro b hb
          have hlt := blkN_lt hz1 hb
          have e1 : IntKind.i64.wrap (((b * z : Nat) : Int) + (z : Int)) = (((b + 1) * z : Nat) : Int) := by rw [Nat.add_mul, Nat.one_mul, w64 (by omega) (by omega)]; omega
          simp only [spec_l02Blocks_l2_T, Tree.run, lt_nat, hlt, decide_true, if_true, h4 b _ hlt, Option.bind_some, e1, dotN]
        · have := blkN_ge (m := m) hz1
          have h : ¬ blkN m z * z < m := by omega
          simp only [spec_l02Blocks_l2_T, Tree.run, lt_nat, h, decide_false, Bool.false_eq_true, if_false]
          rfl
      simp only [spec_l02Blocks_l0_T, Tree.run, mulw hn hq, lt_nat, hp, decide_true, if_true, h2, Option.bind_some, w1 (show p ≤ 1000 by omega)]
      rw [if_pos (fitsN (by simp; omega)), hf]
    · intro s; simp only [spec_l02Blocks_l0_T, Tree.run, mulw hn hq, lt_nat, Nat.lt_irrefl, decide_false, Bool.false_eq_true, if_false]
  simp only [spec_l02Blocks_g, spec_l02Blocks_T, Tree.run, this, Option.bind_some, if_true, spec_l02Blank_v]
theorem mbcI {n m q z i k : Nat} {A B : List Nat} (hz1 : 1 ≤ z) (hz : z ≤ 12) (hi : i < n) (hk : k < q) (h1 : 1 ≤ m) (hn : n ≤ 12) (hm : m ≤ 12) (hq : q ≤ 12) (hA : A.length = n * m) (hB : B.length = m * q) :
    impl_MulBlocks_1_g (i : Int) (k : Int) n m A m q B z = some (blkS m z fun j => fmul .f32 (nth A (i * m + j)) (nth B (j * q + k))) := by
  obtain ⟨k1, k2, k3⟩ := rowI hi h1 hn hm hA
  have hl := rowL_length hi hn hm hA
  obtain ⟨f, hf⟩ : ∃ f : Nat → Nat, f = fun j => fmul .f32 (nth A (i * m + j)) (nth B (j * q + k)) := ⟨_, rfl⟩
  have : impl_MulBlocks_1_l0_g (i : Int) m A z (colL m q B k) ((0 : Nat), (0 : Int)) = some (blkS m z f) := by
    refine Eq.trans ?_ (whileM_fix (T := fun s => (impl_MulBlocks_1_l0_T (i : Int) m A z (colL m q B k) s).run) (n := blkN m z) (r := blkS m z f) (fun b => (dotN (fun b => dotN (fun j => f (b * z + j)) (min m (b * z + z) - b * z)) b, ((b * z : Nat) : Int))) ?_ ?_)
    · simp [impl_MulBlocks_1_l0_g, dotN]
    · intro b hb
      have hlt := blkN_lt hz1 hb
      have e0 : IntKind.i64.wrap (((b * z : Nat) : Int) + (z : Int)) = ((b * z + z : Nat) : Int) := by rw [w64 (by omega) (by omega)]; omega
      have e1 : IntKind.i64.wrap (((b * z : Nat) : Int) + (z : Int)) = (((b + 1) * z : Nat) : Int) := by rw [Nat.add_mul, Nat.one_mul, w64 (by omega) (by omega)]; omega
      obtain ⟨t, ht⟩ : ∃ t, t = min m (b * z + z) := ⟨_, rfl⟩
      have e3 : b * z + (t - b * z) = t := by omega
      have s1 : sok ((b * z : Nat) : Int) ((t : Nat) : Int) (rowL m A i).length = true := sok_iff.2 ⟨by omega, by omega, by omega⟩
      have s2 : sok ((b * z : Nat) : Int) ((t : Nat) : Int) (colL m q B k).length = true := sok_iff.2 ⟨by omega, by omega, by rw [colL_length]; omega⟩
      have l1 := sub_length s1
      have l2 := sub_length s2
      have hd := dotI (AM.sub (rowL m A i) ((b * z : Nat) : Int) ((t : Nat) : Int)) (AM.sub (colL m q B k) ((b * z : Nat) : Int) ((t : Nat) : Int)) (by rw [l1, l2]; exact Nat.le_refl _) (by rw [l1]; unfold maxN; omega)
      rw [l1] at hd
      simp only [Int.toNat_natCast] at hd
      have he : dotN (fun j => fmul .f32 (nth (AM.sub (rowL m A i) ((b * z : Nat) : Int) ((t : Nat) : Int)) j) (nth (AM.sub (colL m q B k) ((b * z : Nat) : Int) ((t : Nat) : Int)) j)) (t - b * z) = dotN (fun j => f (b * z + j)) (t - b * z) :=
        dotN_congr _ fun j hj => by rw [nth_sub (by omega) (by omega), nth_sub (by omega) (by rw [colL_length]; omega), rowL_nth hi (by omega) hA, colL_nth (by omega), hf]
      rw [he] at hd
      unfold rowL at hd s1
      simp only [impl_MulBlocks_1_l0_T, Tree.run, lt_nat, hlt, decide_true, if_true, k2, k3, List.nil_append, e0, imin_nat, ← ht, Int.toNat_natCast, e3, s1, s2, hd, Option.bind_some, dotN]
      rw [← e0, e1]
    · have := blkN_ge (m := m) hz1
      have h : ¬ blkN m z * z < m := by omega
      simp only [impl_MulBlocks_1_l0_T, Tree.run, lt_nat, h, decide_false, Bool.false_eq_true, if_false]
      rfl
  simp only [impl_MulBlocks_1_g, impl_MulBlocks_1_T, Tree.run, k1, colI hk hm hq hB, this, Option.bind_some, if_true, hf]
theorem mbI {n m q z : Nat} {A B : List Nat} (hz1 : 1 ≤ z) (hz : z ≤ 12) (h1 : 1 ≤ m) (hn : n ≤ 12) (hm : m ≤ 12) (hq : q ≤ 12) (hA : A.length = n * m) (hB : B.length = m * q) : impl_made_g n q n m A m q B z = some ((n : Int), (q : Int), blkL n m q z A B) := by
  have : impl_made_l0_g n q n m A m q B z n q ((0 : Int), List.replicate (n * q) 0) = some (blkL n m q z A B) := by
    refine made_gen (T0 := fun s => (impl_made_l0_T n q n m A m q B z n q s).run) (T2 := fun i s => (impl_made_l2_T q n m A m q B z i n q s).run) (n := n) (m := q) ?_ ?_ ?_ ?_
    · intro i k s hi hk hs
      simp only [impl_made_l2_T, Tree.run, lt_nat, hk, decide_true, if_true, mbcI hz1 hz hi hk h1 hn hm hq hA hB, setR hi hk hn hq hs, Option.bind_some, atw hi hk hn hq, Int.toNat_natCast, List.length_set, w1 (show k ≤ 1000 by omega)]
    · intro i s hi; simp [impl_made_l2_T, Tree.run]
    · intro i s s' hi h
      have h' : impl_made_l2_g q n m A m q B z i n q ((0 : Int), s) = some s' := h
      simp only [impl_made_l0_T, Tree.run, lt_nat, hi, decide_true, if_true, h', Option.bind_some, w1 (show i ≤ 1000 by omega)]
    · intro s; simp [impl_made_l0_T, Tree.run]
  simp only [impl_made_g, impl_made_T, Tree.run, newR hn hq, mulw hn hq, Int.toNat_natCast, this, Option.bind_some, if_true]
theorem mb_both (r1 c1 : Int) (x1 : List Nat) (r2 c2 : Int) (x2 : List Nat) (w : Int) (h1 : x1.length ≤ maxN) (h2 : x2.length ≤ maxN) (hw : -9223372036854775808 ≤ w ∧ w < 9223372036854775808) :
    ∃ r, impl_MulBlocks_g r1 c1 x1 r2 c2 x2 w = some r ∧ spec_MulBlocks_g r1 c1 x1 r2 c2 x2 w = some r ∧ ∀ d, r = .inr d → d.2.2.length ≤ 144 := by
  have eI := areFacI r1 c1 x1 r2 c2 x2 h1 h2
  have eS := fitS r1 c1 x1 r2 c2 x2 h1 h2
  cases hb : (vm r1 c1 x1 && vm r2 c2 x2 && decide (c1 = r2)) with
  | false =>
    rw [hb] at eI eS
    refine ⟨.inl (), ?_, ?_, fun d h => by cases h⟩
    · simp [impl_MulBlocks_g, impl_MulBlocks_T, Tree.run, eI]
    · simp [spec_MulBlocks_g, spec_MulBlocks_T, Tree.run, eS]
  | true =>
    rw [hb] at eI eS
    simp only [Bool.and_eq_true, decide_eq_true_eq] at hb
    obtain ⟨⟨v1, v2⟩, rfl⟩ := hb
    obtain ⟨n, m, rfl, rfl, a1, a2, a3, a4, a5, a6⟩ := vm_shape v1
    obtain ⟨m', q, e, rfl, b1, b2, b3, b4, b5, b6⟩ := vm_shape v2
    have e : m = m' := by omega
    subst e
    have hin : impl_isSide_v w = spec_l00In_v w 1 12 := rfl
    cases hv : spec_l00In_v w 1 12 with
    | false =>
      refine ⟨.inl (), ?_, ?_, fun d h => by cases h⟩
      · simp [impl_MulBlocks_g, impl_MulBlocks_T, Tree.run, eI, hin, hv]
      · simp [spec_MulBlocks_g, spec_MulBlocks_T, Tree.run, eS, hv]
    | true =>
      obtain ⟨z, rfl, hz1, hz⟩ : ∃ z : Nat, w = (z : Int) ∧ 1 ≤ z ∧ z ≤ 12 := by
        simp [spec_l00In_v] at hv
        exact ⟨w.toNat, by omega, by omega, by omega⟩
      have gI := mbI (q := q) hz1 hz a3 a2 a4 b4 a5 b5
      have gS := mbS (q := q) hz1 hz a2 a4 b4 a5 b5
      have hl := blkL_length n m q z x1 x2
      have hb := le144 a2 b4
      generalize blkL n m q z x1 x2 = d at gI gS hl
      have kI := validR a1 a2 b3 b4 hl
      have kS := giveR a1 a2 b3 b4 hl
      refine ⟨if d.all sfin = true then .inr ((n : Int), (q : Int), d) else .inl (), ?_, ?_, ?_⟩
      · simp only [impl_MulBlocks_g, impl_MulBlocks_T, Tree.run, hin, hv, eI, gI, kI, Option.bind_some, Bool.not_true, Bool.false_eq_true, if_false]
        split <;> simp [Tree.run]
      · simp only [spec_MulBlocks_g, spec_MulBlocks_T, Tree.run, hv, eS, gS, kS, Option.bind_some, Bool.not_true, Bool.false_eq_true, if_false]
        split <;> simp [Tree.run]
      · intro d' h'
        split at h'
        · cases h'; simp only; omega
        · cases h'
theorem mb_law (x0 : Int) (x1 : Int) (x2 : List Nat) (x3 : Int) (x4 : Int) (x5 : List Nat) (x6 : Int) (h0 : -9223372036854775808 ≤ x0 ∧ x0 < 9223372036854775808) (h1 : -9223372036854775808 ≤ x1 ∧ x1 < 9223372036854775808) (h2 : x2.length ≤ maxN) (h3 : -9223372036854775808 ≤ x3 ∧ x3 < 9223372036854775808) (h4 : -9223372036854775808 ≤ x4 ∧ x4 < 9223372036854775808) (h5 : x5.length ≤ maxN) (h6 : -9223372036854775808 ≤ x6 ∧ x6 < 9223372036854775808) : laws_FnExactMulBlocks_g x0 x1 x2 x3 x4 x5 x6 = some true := by
  have q2 := h2
  have q5 := h5
  unfold maxN at q2 q5
  obtain ⟨r, i1, i2, i3⟩ := mb_both x0 x1 x2 x3 x4 x5 x6 h2 h5 h6
  have enM := eqM_self 0 0 [] (by simp [maxN])
  have hnM := heldM_nil 1 (by omega) (by omega)
  have m2 := markM_ok x2 (1) h2 (by omega) (by omega)
  have m5 := markM_ok x5 (1 + x2.length) h5 (by omega) (by omega)
  have g1 : decide (((1 : Int) + x2.length + x5.length : Int) < 0) = false := by simp; omega
  cases z0 : decide (laws_szMatrix_v x2 (1048576) < 0)
  case true => simp only [laws_FnExactMulBlocks_g, laws_FnExactMulBlocks_T, Tree.run, z0, decide_false, Bool.false_eq_true, if_false, if_true] <;> simp [Tree.run, z0]
  cases z3 : decide (laws_szMatrix_v x5 (laws_szMatrix_v x2 (1048576)) < 0)
  case true => simp only [laws_FnExactMulBlocks_g, laws_FnExactMulBlocks_T, Tree.run, z0, z3, decide_false, Bool.false_eq_true, if_false, if_true] <;> simp [Tree.run, z0, z3]
  cases r with
  | inl u =>
    simp only [laws_FnExactMulBlocks_g, laws_FnExactMulBlocks_T, Tree.run, i1, i2, enM, hnM, markM_nil, m2, toM_ok x0 x1 x2 h2, eqM_self x0 x1 x2 h2, m5, toM_ok x3 x4 x5 h5, eqM_self x3 x4 x5 h5, g1, z0, z3, Option.bind_some, Bool.false_eq_true, if_false, if_true, decide_true, Bool.not_true, Bool.not_false, beq_self_eq_true, marks_length]
    first | done | simp [Tree.run]
  | inr d =>
    obtain ⟨a0, b0, d0_⟩ := d
    have hd := i3 _ rfl
    simp only at hd
    have e0 := hd
    have hd0 : d0_.length ≤ maxN := by unfold maxN; omega
    have md0 := markM_ok d0_ (1) hd0 (by omega) (by omega)
    have hl0 := heldM_ok (1) d0_.length hd0 (by omega) (by omega)
    have g20 : decide (((1 : Int) + d0_.length : Int) < 0) = false := by simp; omega
    simp only [laws_FnExactMulBlocks_g, laws_FnExactMulBlocks_T, Tree.run, i1, i2, enM, hnM, markM_nil, m2, toM_ok x0 x1 x2 h2, eqM_self x0 x1 x2 h2, m5, toM_ok x3 x4 x5 h5, eqM_self x3 x4 x5 h5, g1, z0, z3, md0, hl0, g20, eqM_self a0 b0 d0_ hd0, Option.bind_some, Bool.false_eq_true, if_false, if_true, decide_true, Bool.not_true, Bool.not_false, beq_self_eq_true, marks_length]
    first | done | simp [Tree.run]
theorem mb_lawL (x0 : Int) (x1 : Int) (x2 : Nat) (x3 : Int) (x4 : Int) (x5 : Nat) (x6 : Int) (h0 : -9223372036854775808 ≤ x0 ∧ x0 < 9223372036854775808) (h1 : -9223372036854775808 ≤ x1 ∧ x1 < 9223372036854775808) (h2 : x2 < 9223372036854775808) (h3 : -9223372036854775808 ≤ x3 ∧ x3 < 9223372036854775808) (h4 : -9223372036854775808 ≤ x4 ∧ x4 < 9223372036854775808) (h5 : x5 < 9223372036854775808) (h6 : -9223372036854775808 ≤ x6 ∧ x6 < 9223372036854775808) (big : maxN < x2 ∨ maxN < x5) : laws_FnExactMulBlocks_len_g x2 x5 = some true := by
  unfold maxN at big
  by_cases k2 : (1048576 : Int) < (x2 : Int)
  · have e := szM_len1 x2 (1048576) h2 (by omega) (by omega) k2
    simp [laws_FnExactMulBlocks_len_g, laws_FnExactMulBlocks_len_T, Tree.run, e]
  have e2 := szM_len0 x2 (1048576) h2 (by omega) (by omega) k2
  have g2 : decide ((1048576 - (x2 : Int)) < 0) = false := by simp; omega
  by_cases k5 : (1048576 - (x2 : Int) : Int) < (x5 : Int)
  · have e := szM_len1 x5 (1048576 - (x2 : Int)) h5 (by omega) (by omega) k5
    simp [laws_FnExactMulBlocks_len_g, laws_FnExactMulBlocks_len_T, Tree.run, e2, g2, e]
  have e5 := szM_len0 x5 (1048576 - (x2 : Int)) h5 (by omega) (by omega) k5
  have g5 : decide ((1048576 - (x2 : Int) - (x5 : Int)) < 0) = false := by simp; omega
  omega
end Go.Proofs.Ytooakheodgndaaa.AM
