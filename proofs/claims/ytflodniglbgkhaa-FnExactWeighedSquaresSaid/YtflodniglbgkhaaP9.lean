/- Weighed least squares. -/
import Derived.Test.YtflodniglbgkhaaP4
set_option linter.unusedSimpArgs false
set_option linter.unusedVariables false
namespace Go.Proofs.Ytflodniglbgkhaa.AM

/-- Least squares of a valid matrix and a valid list, both sides. -/
theorem ls_core {n m : Nat} (x b : List Nat) (a1 : 1 ≤ n) (a2 : n ≤ 12) (a3 : 1 ≤ m) (a4 : m ≤ 12) (a5 : x.length = n * m) (a6 : x.all sfin = true) (hmn : m ≤ n) (hbl : b.length = n) (hbf : b.all sfin = true) :
    ∃ o, impl_LeastSquares_g n m x b = some o ∧ spec_l03Least_g n m x b = some o ∧ ∀ d, o = .inr d → d.length ≤ 144 := by
  have hx : x.length ≤ maxN := by have := le144 a2 a4; unfold maxN; omega
  have hb : b.length ≤ maxN := by unfold maxN; omega
  have vI := vmI n m x hx
  rw [vm_nat a1 a2 a3 a4 a5, a6] at vI
  have bI := isVecI b hb
  have cb1 : decide ((1 : Int) ≤ (b.length : Int)) = true := by simp; omega
  have cb2 : decide ((b.length : Int) ≤ 256) = true := by simp; omega
  rw [cb1, cb2, hbf] at bI
  simp only [Bool.and_self] at bI
  have hd : decide ((b.length : Int) = (n : Int)) = true := by simp [hbl]
  have hdI : decide (impl_lengthF_v b = (n : Int)) = true := hd
  have hnm : ¬ (n : Int) < m := by omega
  have h2 : decide ((m : Int) ≤ n) = true := by simp; omega
  have h3 : decide ((n : Int) < m) = false := by simpa using hnm
  have hT : impl_isTall_g n m x = some true := by simp only [impl_isTall_g, impl_isTall_T, Tree.run, vI, h2, Option.bind_some, if_true]
  have hb1 := le144 a2 a4
  have hb2 := le144 a4 a4
  obtain ⟨o, g1, g2, g3⟩ := mir_both x a5 a1 a2 a3 a4
  cases o with
  | inl u =>
    have mI : impl_MirrorFactor_g n m x = some (.inl ()) := by
      simp only [impl_MirrorFactor_g, impl_MirrorFactor_T, Tree.run, hT, newR a2 a4, newR a4 a4, mulw a2 a4, mulw a4 a4, Int.toNat_natCast, g1, Option.bind_some, Bool.not_true, Bool.false_eq_true, if_false, if_true]
    refine ⟨.inl (), ?_, ?_, fun d h => by cases h⟩
    · simp only [impl_LeastSquares_g, impl_LeastSquares_T, Tree.run, bI, hdI, mI, Option.bind_some, Bool.not_true, Bool.false_eq_true, if_false]
    · simp only [spec_l03Least_g, spec_l03Least_T, Tree.run, g2, Option.bind_some, Bool.not_true, Bool.false_eq_true, if_false]
  | inr d =>
    obtain ⟨q, R⟩ := d
    obtain ⟨l1, l2⟩ := g3 _ rfl
    simp only at l1 l2 g2
    have v1 := vmI n m q (by unfold maxN; omega)
    have v2 := vmI m m R (by unfold maxN; omega)
    rw [vm_nat a1 a2 a3 a4 l1] at v1
    rw [vm_nat a3 a4 a3 a4 l2] at v2
    have mI : impl_MirrorFactor_g n m x = some (if q.all sfin && R.all sfin then .inr ((n : Int), (m : Int), (m : Int), (m : Int), q, R) else .inl ()) := by
      simp only [impl_MirrorFactor_g, impl_MirrorFactor_T, Tree.run, hT, newR a2 a4, newR a4 a4, mulw a2 a4, mulw a4 a4, Int.toNat_natCast, g1, v1, v2, Option.bind_some, Bool.not_true, Bool.false_eq_true, if_false, if_true]
      cases q.all sfin <;> cases R.all sfin <;> simp
    have fI := flipI a2 a4 l1
    have tI := rightI a1 a2 a4 l1 hbl
    have tS := rightS (A := x) (R := R) a2 a4 l1 hbl
    have hrl : (rightL n m q b).length = m := by simp [rightL]
    generalize rightL n m q b = w at tI tS hrl
    have fS := finiteS w (by unfold maxN; omega)
    have wI := isVecI w (by unfold maxN; omega)
    have c1 : decide ((1 : Int) ≤ (w.length : Int)) = true := by simp; omega
    have c2 : decide ((w.length : Int) ≤ 256) = true := by simp; omega
    rw [c1, c2] at wI
    cases hq : q.all sfin with
    | false =>
      rw [hq] at mI g2
      refine ⟨.inl (), ?_, ?_, fun d h => by cases h⟩
      · simp [impl_LeastSquares_g, impl_LeastSquares_T, Tree.run, bI, impl_lengthF_v, hbl, mI]
      · simp only [Bool.false_eq_true, if_false] at g2
        simp only [spec_l03Least_g, spec_l03Least_T, Tree.run, g2, Option.bind_some, Bool.not_true, Bool.false_eq_true, if_false]
    | true =>
    cases hR : R.all sfin with
    | false =>
      rw [hq, hR] at mI g2
      refine ⟨.inl (), ?_, ?_, fun d h => by cases h⟩
      · simp [impl_LeastSquares_g, impl_LeastSquares_T, Tree.run, bI, impl_lengthF_v, hbl, mI]
      · simp only [if_true] at g2
        simp only [spec_l03Least_g, spec_l03Least_T, Tree.run, g2, Option.bind_some, Bool.not_true, Bool.not_false, Bool.false_eq_true, if_false, if_true]
    | true =>
      rw [hq, hR] at mI g2
      simp only [Bool.and_self, if_true] at mI g2
      cases hw : w.all sfin with
      | false =>
        rw [hw] at wI fS
        have uI : impl_UpperSolve_g m m R w = some (.inl ()) := by
          have vR := vmI m m R (by unfold maxN; omega)
          rw [vm_nat a3 a4 a3 a4 l2, hR] at vR
          have hsq : impl_isSquare_g m m R = some true := by simp [impl_isSquare_g, impl_isSquare_T, Tree.run, vR]
          simp [impl_UpperSolve_g, impl_UpperSolve_T, Tree.run, hsq, wI]
        refine ⟨.inl (), ?_, ?_, fun d h => by cases h⟩
        · simp only [impl_LeastSquares_g, impl_LeastSquares_T, Tree.run, bI, hdI, mI, fI, tI, uI, Option.bind_some, Bool.not_true, Bool.false_eq_true, if_false]
        · simp only [spec_l03Least_g, spec_l03Least_T, Tree.run, g2, tS, fS, Option.bind_some, Bool.not_true, Bool.not_false, Bool.false_eq_true, if_false, if_true]
      | true =>
        rw [hw] at fS
        obtain ⟨o, u1, u2, u3⟩ := us_both R w a3 a4 l2 hR hrl hw
        refine ⟨o, ?_, ?_, fun d h => by have := u3 d h; omega⟩
        · simp only [impl_LeastSquares_g, impl_LeastSquares_T, Tree.run, bI, hdI, mI, fI, tI, u1, Option.bind_some, Bool.not_true, Bool.false_eq_true, if_false]
          cases o <;> simp [Tree.run]
        · simp only [spec_l03Least_g, spec_l03Least_T, Tree.run, g2, tS, fS, u2, Option.bind_some, Bool.not_true, Bool.false_eq_true, if_false, if_true]
          cases o <;> simp [Tree.run]

theorem ls_bad {r c : Int} {x b : List Nat} (hx : x.length ≤ maxN) (hb : b.length ≤ maxN) (h : vm r c x = false ∨ r < c ∨ b.all sfin = false) : impl_LeastSquares_g r c x b = some (.inl ()) := by
  have vI := vmI r c x hx
  have bI := isVecI b hb
  have mI : vm r c x = false ∨ r < c → impl_MirrorFactor_g r c x = some (.inl ()) := fun h => by
    have hT : impl_isTall_g r c x = some false := by
      rcases h with h | h
      · rw [h] at vI; simp [impl_isTall_g, impl_isTall_T, Tree.run, vI]
      · have h2 : decide (c ≤ r) = false := by simp; omega
        simp only [impl_isTall_g, impl_isTall_T, Tree.run, vI, h2, Option.bind_some]
        cases vm r c x <;> simp
    simp [impl_MirrorFactor_g, impl_MirrorFactor_T, Tree.run, hT]
  cases hbv : (decide ((1 : Int) ≤ b.length) && decide ((b.length : Int) ≤ 256) && b.all sfin) with
  | false => rw [hbv] at bI; simp [impl_LeastSquares_g, impl_LeastSquares_T, Tree.run, bI]
  | true =>
    rw [hbv] at bI
    have hf : ¬ b.all sfin = false := fun e => by rw [e] at hbv; simp at hbv
    have := mI (by rcases h with h | h | h; exact .inl h; exact .inr h; exact absurd h hf)
    simp only [impl_LeastSquares_g, impl_LeastSquares_T, Tree.run, bI, this, Option.bind_some, Bool.not_true, Bool.false_eq_true, if_false]
    split <;> rfl
theorem prod_comm (a b : Ieee.Datum) : a.product b = b.product a := by
  cases a <;> cases b <;> simp only [Ieee.Datum.product]
  all_goals first
  | rfl
  | (simp only [Option.some.injEq, Ieee.Datum.infinity.injEq, Ieee.Datum.number.injEq]; first | (refine ⟨?_, ?_, ?_⟩ <;> first | exact Bool.xor_comm _ _ | exact Nat.mul_comm _ _ | exact Int.add_comm _ _) | exact Bool.xor_comm _ _)
  | (rw [Bool.xor_comm])
theorem fmul_comm (x y : Nat) : fmul .f32 x y = fmul .f32 y x := by
  have : ∀ x y, fmul .f32 x y = fres .f32 (((FloatKind.f32.decode x).product (FloatKind.f32.decode y)).map FloatKind.f32.format.write) := fun _ _ => rfl
  rw [this, this, prod_comm]
/-- The root. -/
noncomputable def rt (x : Nat) : Nat := (fconv .f64 (fsqrt (wid x)) .f32).getD 0
theorem rt_ok (x : Nat) : fconv .f64 (fsqrt (wid x)) .f32 = some (rt x) := by
  obtain ⟨y, hy⟩ := sqrt_conv x
  unfold rt
  rw [hy]; rfl
theorem negI (xs : List Nat) (h : xs.length ≤ 1000) : slices_ContainsFuncF_i1_g xs = some (xs.any fun x => fless .f32 x 0) := by
  have hT : ∀ i, i < xs.length → (slices_IndexFuncF_i1_l0_T xs (i : Int)).run = if (fless .f32 (nth xs i) 0) = true then some (.inr (.inl (i : Int))) else some (.inl ((i + 1 : Nat) : Int)) := by
    intro i hi
    simp only [slices_IndexFuncF_i1_l0_T, impl_WeighedSquares_1_v, Tree.run, lt_nat, inb_nat, hi, decide_true, if_true, Int.toNat_natCast, w1 (show i ≤ 1000 by omega)]
  have he : (slices_IndexFuncF_i1_l0_T xs (xs.length : Int)).run = some (.inr (.inr ())) := by
    simp [slices_IndexFuncF_i1_l0_T, Tree.run]
  have := whileM_find (T := fun s => (slices_IndexFuncF_i1_l0_T xs s).run) (p := fun i => fless .f32 (nth xs i) 0) (a := fun i => .inl (i : Int)) hT he
  have ha := find_any xs.length (fun i => fless .f32 (nth xs i) 0)
  rw [any_range (fun x => fless .f32 x 0)] at ha
  simp only [slices_ContainsFuncF_i1_g, slices_ContainsFuncF_i1_T, slices_IndexFuncF_i1_g, slices_IndexFuncF_i1_T, Tree.run, if_true, slices_IndexFuncF_i1_l0_g, this]
  rw [← ha]
  cases hf : (List.range xs.length).find? (fun i => fless .f32 (nth xs i) 0) <;> simp [Tree.run]
noncomputable def wbL (n : Nat) (b w : List Nat) : List Nat := (List.range n).map fun i => fmul .f32 (nth b i) (rt (nth w i))
noncomputable def wmL (n m : Nat) (A w : List Nat) : List Nat := rc n m fun i k => fmul .f32 (nth A (i * m + k)) (rt (nth w i))
@[simp] theorem wbL_length (n : Nat) (b w : List Nat) : (wbL n b w).length = n := by simp [wbL]
@[simp] theorem wmL_length (n m : Nat) (A w : List Nat) : (wmL n m A w).length = n * m := by simp [wmL]
theorem wbI {n : Nat} {b w : List Nat} (hn : n ≤ 12) (hb : b.length = n) (hw : w.length = n) : impl_WeighedSquares_l0_g b w ((0 : Int), ([] : List Nat)) = some (wbL n b w) := by
  unfold wbL
  refine app_gen (T := fun s => (impl_WeighedSquares_l0_T b w s).run) ?_ ?_
  · intro i s hi hs
    simp only [impl_WeighedSquares_l0_T, impl_mul_v, Tree.run, hw, hb, lt_nat, inb_nat, hi, decide_true, if_true, Int.toNat_natCast, rootI _ _ (rt_ok _), Option.bind_some, w1 (show i ≤ 1000 by omega)]
    rw [if_pos (fitsN (by simp; omega))]
  · intro s; simp [impl_WeighedSquares_l0_T, Tree.run, hw]
theorem wmI2 {n m : Nat} {A w : List Nat} (hn : n ≤ 12) (hm : m ≤ 12) (hA : A.length = n * m) (hw : w.length = n) : impl_made_g n m n m A w = some ((n : Int), (m : Int), wmL n m A w) := by
  have g : impl_made_l0_g n m n m A w n m ((0 : Int), List.replicate (n * m) 0) = some (wmL n m A w) := by
    refine made_gen (T0 := fun s => (impl_made_l0_T n m n m A w n m s).run) (T2 := fun i s => (impl_made_l2_T m m A w i n m s).run) (n := n) (m := m) ?_ ?_ ?_ ?_
    · intro i k s hi hk hs
      have hc : impl_WeighedSquares_2_g (i : Int) (k : Int) m A w = some (fmul .f32 (nth A (i * m + k)) (rt (nth w i))) := by
        simp only [impl_WeighedSquares_2_g, impl_WeighedSquares_2_T, impl_mul_v, Tree.run, atI hi hk hn hm hA, inb_nat, show i < w.length by omega, decide_true, if_true, Int.toNat_natCast, rootI _ _ (rt_ok _), Option.bind_some]
      simp only [impl_made_l2_T, Tree.run, lt_nat, hk, decide_true, if_true, hc, setR hi hk hn hm hs, Option.bind_some, atw hi hk hn hm, Int.toNat_natCast, List.length_set, w1 (show k ≤ 1000 by omega)]
    · intro i s hi; simp [impl_made_l2_T, Tree.run]
    · intro i s s' hi h
      have h' : impl_made_l2_g m m A w i n m ((0 : Int), s) = some s' := h
      simp only [impl_made_l0_T, Tree.run, lt_nat, hi, decide_true, if_true, h', Option.bind_some, w1 (show i ≤ 1000 by omega)]
    · intro s; simp [impl_made_l0_T, Tree.run]
  simp only [impl_made_g, impl_made_T, Tree.run, newR hn hm, mulw hn hm, Int.toNat_natCast, g, Option.bind_some, if_true]
theorem set_sub2 {xs : List Nat} {p j : Nat} {v : Nat} (h : p < xs.length) : nth (xs.set p v) j = if p = j then v else nth xs j := by
  split
  · rename_i e; subst e; exact nth_set_eq _ _ _ h
  · rename_i e; exact nth_set_ne _ _ _ _ e
theorem rc_inj2 {m i k j l : Nat} (hk : k < m) (hl : l < m) (h : i * m + k = j * m + l) : i = j ∧ k = l := by
  have h1 := rc_div (i := i) hk
  have h2 := rc_div (i := j) hl
  have h3 := rc_mod (i := i) hk
  have h4 := rc_mod (i := j) hl
  rw [h] at h1 h3
  omega
theorem wsRow {n m : Nat} {A : List Nat} (y : Nat) (p q : Int) (hn : n ≤ 12) (hm : m ≤ 12) (hA : A.length = n * m) (right : List Nat) {i : Nat} (hi : i < n) : ∀ (d k : Nat) (s : List Nat), k + d = m → s.length = n * m →
    ∃ s', spec_WeighedSquares_l2_g m A (i : Int) y p q right ((k : Int), s) = some s' ∧ s'.length = n * m ∧ ∀ j l, j < n → l < m → nth s' (j * m + l) = if j = i ∧ k ≤ l then fmul .f32 y (nth A (j * m + l)) else nth s (j * m + l) := by
  intro d
  induction d with
  | zero =>
    intro k s hk hs
    refine ⟨s, whileM_inr (T := fun s => (spec_WeighedSquares_l2_T m A (i : Int) y p q right s).run) (by simp [spec_WeighedSquares_l2_T, Tree.run]; omega), hs, fun j l hj hl => ?_⟩
    rw [if_neg (by omega)]
  | succ d ih =>
    intro k s hk hs
    have hkm : k < m := by omega
    have hlt : i * m + k < n * m := rc_lt hi hkm
    obtain ⟨s', g1, g2, g3⟩ := ih (k + 1) (s.set (i * m + k) (fmul .f32 y (nth A (i * m + k)))) (by omega) (by simp [hs])
    refine ⟨s', whileM_inl (T := fun s => (spec_WeighedSquares_l2_T m A (i : Int) y p q right s).run) ?_ g1, g2, fun j l hj hl => ?_⟩
    · simp only [spec_WeighedSquares_l2_T, Tree.run, lt_nat, hkm, decide_true, if_true, atw hi hkm hn hm, inb_nat, hA, hs, hlt, Int.toNat_natCast, w1 (show k ≤ 1000 by omega)]
    · rw [g3 j l hj hl, set_sub2 (by rw [hs]; exact hlt)]
      by_cases h1 : j = i ∧ k + 1 ≤ l
      · rw [if_pos h1, if_pos (by omega)]
      · rw [if_neg h1]
        by_cases h2 : i * m + k = j * m + l
        · obtain ⟨e1, e2⟩ := rc_inj2 hkm hl h2
          rw [if_pos h2, if_pos (by omega), h2]
        · rw [if_neg h2, if_neg]
          rintro ⟨e1, e2⟩
          subst e1
          apply h1
          refine ⟨rfl, ?_⟩
          rcases Nat.lt_or_eq_of_le e2 with h | h
          · exact h
          · subst h; exact absurd rfl h2
theorem wsAll {n m : Nat} {A b w : List Nat} (p q : Int) (hn : n ≤ 12) (hm : m ≤ 12) (hA : A.length = n * m) (hb : b.length = n) (hw : w.length = n) : ∀ (d i : Nat) (right s : List Nat), i + d = n → right.length = i → s.length = n * m →
    ∃ o, spec_WeighedSquares_l0_g n m A b w p q ((i : Int), right, s) = some o ∧
      if ((List.range' i d).any fun j => fless .f32 (nth w j) 0) = true then o = .inl () else
        ∃ s', o = .inr (right ++ (List.range' i d).map (fun j => fmul .f32 (rt (nth w j)) (nth b j)), s') ∧ s'.length = n * m ∧ ∀ j l, j < n → l < m → nth s' (j * m + l) = if i ≤ j then fmul .f32 (rt (nth w j)) (nth A (j * m + l)) else nth s (j * m + l) := by
  intro d
  induction d with
  | zero =>
    intro i right s hi hr hs
    refine ⟨.inr (right, s), whileM_inr (T := fun s => (spec_WeighedSquares_l0_T n m A b w p q s).run) (by simp [spec_WeighedSquares_l0_T, Tree.run, hw]; omega), ?_⟩
    simp only [List.range'_zero, List.any_nil, Bool.false_eq_true, if_false, List.map_nil, List.append_nil]
    exact ⟨s, rfl, hs, fun j l hj hl => by rw [if_neg (by omega)]⟩
  | succ d ih =>
    intro i right s hi hr hs
    have hin : i < n := by omega
    cases hneg : fless .f32 (nth w i) 0 with
    | true =>
      refine ⟨.inl (), whileM_inr (T := fun s => (spec_WeighedSquares_l0_T n m A b w p q s).run) ?_, ?_⟩
      · simp only [spec_WeighedSquares_l0_T, Tree.run, hw, lt_nat, inb_nat, hin, decide_true, if_true, Int.toNat_natCast, hneg]
      · simp [List.range'_succ, hneg]
    | false =>
      obtain ⟨s1, r1, r2, r3⟩ := wsRow (rt (nth w i)) p q hn hm hA (right ++ [fmul .f32 (rt (nth w i)) (nth b i)]) hin m 0 s (by omega) hs
      have r1 : spec_WeighedSquares_l2_g m A (i : Int) (rt (nth w i)) p q (right ++ [fmul .f32 (rt (nth w i)) (nth b i)]) ((0 : Int), s) = some s1 := r1
      obtain ⟨o, g1, g2⟩ := ih (i + 1) (right ++ [fmul .f32 (rt (nth w i)) (nth b i)]) s1 (by omega) (by simp [hr]) r2
      have hf : fits (right ++ [fmul .f32 (rt (nth w i)) (nth b i)]).length = true := fitsN (by simp; omega)
      refine ⟨o, whileM_inl (T := fun s => (spec_WeighedSquares_l0_T n m A b w p q s).run) ?_ g1, ?_⟩
      · simp only [spec_WeighedSquares_l0_T, Tree.run, hw, hb, lt_nat, inb_nat, hin, decide_true, if_true, Int.toNat_natCast, hneg, Bool.false_eq_true, if_false, rootS _ _ (rt_ok _), Option.bind_some, hf, r1, w1 (show i ≤ 1000 by omega)]
      · rw [List.range'_succ, List.any_cons, hneg, Bool.false_or]
        split at g2
        · rename_i h; rw [if_pos h]; exact g2
        · rename_i h
          rw [if_neg h]
          obtain ⟨s', k1, k2, k3⟩ := g2
          refine ⟨s', ?_, k2, fun j l hj hl => ?_⟩
          · rw [k1]; simp
          · rw [k3 j l hj hl, r3 j l hj hl]
            by_cases h1 : i + 1 ≤ j
            · rw [if_pos h1, if_pos (by omega)]
            · rw [if_neg h1]
              by_cases h2 : j = i
              · subst h2; simp
              · rw [if_neg (by omega), if_neg (by omega)]
theorem ws_both (r c : Int) (x b w : List Nat) (hx : x.length ≤ maxN) (hb : b.length ≤ maxN) (hw : w.length ≤ maxN) : ∃ o, impl_WeighedSquares_g r c x b w = some o ∧ spec_WeighedSquares_g r c x b w = some o ∧ ∀ d, o = .inr d → d.length ≤ 144 := by
  have vI := vmI r c x hx
  have vS := vmS r c x hx
  have bI := isVecI b hb
  have bS := isVecS b hb
  have wI := isVecI w hw
  have wS := isVecS w hw
  cases hv : vm r c x with
  | false =>
    rw [hv] at vI vS
    exact ⟨.inl (), by simp [impl_WeighedSquares_g, impl_WeighedSquares_T, Tree.run, vI], by simp [spec_WeighedSquares_g, spec_WeighedSquares_T, Tree.run, vS], fun d h => by cases h⟩
  | true =>
  rw [hv] at vI vS
  obtain ⟨n, m, rfl, rfl, a1, a2, a3, a4, a5, a6⟩ := vm_shape hv
  have hb1 := le144 a2 a4
  by_cases hall : (decide ((1 : Int) ≤ b.length) && decide ((b.length : Int) ≤ 256) && b.all sfin) = true ∧ (b.length : Int) = (n : Int) ∧ (decide ((1 : Int) ≤ w.length) && decide ((w.length : Int) ≤ 256) && w.all sfin) = true ∧ w.length = b.length
  case neg =>
    refine ⟨.inl (), ?_, ?_, fun d h => by cases h⟩
    · simp only [impl_WeighedSquares_g, impl_WeighedSquares_T, impl_areVectors_g, impl_areVectors_T, Tree.run, vI, bI, wI, Option.bind_some, Bool.not_true, Bool.false_eq_true, if_false]
      cases hB : (decide ((1 : Int) ≤ b.length) && decide ((b.length : Int) ≤ 256) && b.all sfin) with
      | false => simp
      | true =>
        cases hW : (decide ((1 : Int) ≤ w.length) && decide ((w.length : Int) ≤ 256) && w.all sfin) with
        | false => simp
        | true =>
          by_cases h1 : b.length = w.length
          · by_cases h2 : (b.length : Int) = (n : Int)
            · exact absurd ⟨hB, h2, hW, h1.symm⟩ hall
            · have hdI : decide (impl_lengthF_v b = (n : Int)) = false := decide_eq_false h2
              have h1' : decide ((b.length : Int) = (w.length : Int)) = true := decide_eq_true (by omega)
              simp only [h1', hdI, if_true, Option.bind_some, Bool.not_true, Bool.not_false, Bool.false_eq_true, if_false]
          · have h1' : decide ((b.length : Int) = (w.length : Int)) = false := decide_eq_false (by omega)
            simp only [h1', if_true, Option.bind_some, Bool.not_true, Bool.not_false, Bool.false_eq_true, if_false]
    · simp only [spec_WeighedSquares_g, spec_WeighedSquares_T, Tree.run, vS, bS, wS, Option.bind_some, Bool.not_true, Bool.false_eq_true, if_false]
      split
      · rfl
      cases hB : (decide ((1 : Int) ≤ b.length) && decide ((b.length : Int) ≤ 256) && b.all sfin) with
      | false => simp
      | true =>
        by_cases h2 : (b.length : Int) = (n : Int)
        · have h2' : decide ((b.length : Int) = (n : Int)) = true := decide_eq_true h2
          cases hW : (decide ((1 : Int) ≤ w.length) && decide ((w.length : Int) ≤ 256) && w.all sfin) with
          | false => simp only [h2', Bool.not_true, Bool.not_false, Bool.false_eq_true, if_false, if_true]
          | true =>
            have h1' : decide ((w.length : Int) = (b.length : Int)) = false := decide_eq_false (fun e => hall ⟨hB, h2, hW, by omega⟩)
            simp only [h2', h1', Bool.not_true, Bool.not_false, Bool.false_eq_true, if_false, if_true]
        · have h2' : decide ((b.length : Int) = (n : Int)) = false := decide_eq_false h2
          simp only [h2', Bool.not_true, Bool.not_false, Bool.false_eq_true, if_false, if_true]
  obtain ⟨hB, hbn, hW, hwb⟩ := hall
  rw [hB] at bI bS
  rw [hW] at wI wS
  have hbl : b.length = n := by omega
  have hwl : w.length = n := by omega
  have hdI : decide (impl_lengthF_v b = (n : Int)) = true := decide_eq_true hbn
  have hdS : decide ((b.length : Int) = (n : Int)) = true := decide_eq_true hbn
  have h1' : decide ((b.length : Int) = (w.length : Int)) = true := decide_eq_true (by omega)
  have h1'' : decide ((w.length : Int) = (b.length : Int)) = true := decide_eq_true (by omega)
  have av : impl_areVectors_g b w = some true := by simp only [impl_areVectors_g, impl_areVectors_T, Tree.run, bI, wI, h1', Option.bind_some, if_true]
  have nI := negI w (by omega)
  have gI := wbI a2 hbl hwl
  have mI := wmI2 a2 a4 a5 hwl
  obtain ⟨o, s1, s2⟩ := wsAll n m a2 a4 a5 hbl hwl n 0 [] x (by omega) rfl a5
  have s1 : spec_WeighedSquares_l0_g n m x b w n m ((0 : Int), ([] : List Nat), x) = some o := s1
  have hany : ((List.range' 0 n).any fun j => fless .f32 (nth w j) 0) = w.any fun x => fless .f32 x 0 := by
    rw [← List.range_eq_range', ← hwl]
    exact any_range (fun x => fless .f32 x 0) w
  rw [hany] at s2
  have q2 : fits x.length = true := fitsN (by omega)
  have hwm := wmL_length n m x w
  have hwbl := wbL_length n b w
  by_cases hmn : (n : Int) < (m : Int)
  · -- too wide
    have h3 : decide ((n : Int) < m) = true := decide_eq_true hmn
    have lb := ls_bad (r := n) (c := m) (x := wmL n m x w) (b := wbL n b w) (by rw [hwm]; unfold maxN; omega) (by rw [hwbl]; unfold maxN; omega) (.inr (.inl hmn))
    refine ⟨.inl (), ?_, ?_, fun d h => by cases h⟩
    · simp only [impl_WeighedSquares_g, impl_WeighedSquares_T, Tree.run, vI, av, hdI, nI, gI, mI, lb, Option.bind_some, Bool.not_true, Bool.false_eq_true, if_false, if_true]
      cases (w.any fun x => fless .f32 x 0) <;> simp
    · simp only [spec_WeighedSquares_g, spec_WeighedSquares_T, Tree.run, vS, h3, Option.bind_some, Bool.not_true, Bool.false_eq_true, if_false, if_true]
  have h3 : decide ((n : Int) < m) = false := decide_eq_false hmn
  cases hneg : (w.any fun x => fless .f32 x 0) with
  | true =>
    rw [hneg] at nI s2
    simp only [if_true] at s2
    subst s2
    refine ⟨.inl (), ?_, ?_, fun d h => by cases h⟩
    · simp only [impl_WeighedSquares_g, impl_WeighedSquares_T, Tree.run, vI, av, hdI, nI, Option.bind_some, Bool.not_true, Bool.false_eq_true, if_false, if_true]
    · simp only [spec_WeighedSquares_g, spec_WeighedSquares_T, spec_l02Own_g, spec_l02Own_T, Tree.run, vS, h3, bS, hdS, wS, h1'', q2, List.nil_append, s1, Option.bind_some, Bool.not_true, Bool.false_eq_true, if_false, if_true]
  | false =>
    rw [hneg] at nI s2
    simp only [Bool.false_eq_true, if_false] at s2
    obtain ⟨s', e1, e2, e3⟩ := s2
    have hS : s' = wmL n m x w := rc_ext e2 fun i k hi hk => by rw [e3 i k hi hk]; simp only [Nat.zero_le, if_true]; exact fmul_comm _ _
    have hR : ([] : List Nat) ++ (List.range' 0 n).map (fun j => fmul .f32 (rt (nth w j)) (nth b j)) = wbL n b w := by
      rw [List.nil_append, ← List.range_eq_range']
      unfold wbL
      exact List.map_congr_left fun j _ => fmul_comm _ _
    rw [hS, hR] at e1
    subst e1
    generalize wmL n m x w = X at *
    generalize wbL n b w = B at *
    have xS := vmS n m X (by rw [hwm]; unfold maxN; omega)
    rw [vm_nat a1 a2 a3 a4 hwm] at xS
    have fS := finiteS B (by rw [hwbl]; unfold maxN; omega)
    by_cases hok : X.all sfin = true ∧ B.all sfin = true
    · obtain ⟨f1, f2⟩ := hok
      rw [f1] at xS
      rw [f2] at fS
      obtain ⟨o, l1, l2, l3⟩ := ls_core X B a1 a2 a3 a4 hwm f1 (by omega) hwbl f2
      refine ⟨o, ?_, ?_, l3⟩
      · simp only [impl_WeighedSquares_g, impl_WeighedSquares_T, Tree.run, vI, av, hdI, nI, gI, mI, l1, Option.bind_some, Bool.not_true, Bool.false_eq_true, if_false, if_true]
        cases o <;> simp [Tree.run]
      · simp only [spec_WeighedSquares_g, spec_WeighedSquares_T, spec_l02Own_g, spec_l02Own_T, Tree.run, vS, h3, bS, hdS, wS, h1'', q2, List.nil_append, s1, xS, fS, l2, Option.bind_some, Bool.not_true, Bool.false_eq_true, if_false, if_true]
        cases o <;> simp [Tree.run]
    · have lb := ls_bad (r := n) (c := m) (x := X) (b := B) (by rw [hwm]; unfold maxN; omega) (by rw [hwbl]; unfold maxN; omega) (by
        rw [vm_nat a1 a2 a3 a4 hwm]
        cases h1 : X.all sfin with
        | false => exact .inl rfl
        | true =>
          cases h2 : B.all sfin with
          | false => exact .inr (.inr rfl)
          | true => exact absurd ⟨h1, h2⟩ hok)
      refine ⟨.inl (), ?_, ?_, fun d h => by cases h⟩
      · simp only [impl_WeighedSquares_g, impl_WeighedSquares_T, Tree.run, vI, av, hdI, nI, gI, mI, lb, Option.bind_some, Bool.not_true, Bool.false_eq_true, if_false, if_true]
      · simp only [spec_WeighedSquares_g, spec_WeighedSquares_T, spec_l02Own_g, spec_l02Own_T, Tree.run, vS, h3, bS, hdS, wS, h1'', q2, List.nil_append, s1, xS, fS, Option.bind_some, Bool.not_true, Bool.false_eq_true, if_false, if_true]
        cases h1 : X.all sfin with
        | false => simp
        | true =>
          cases h2 : B.all sfin with
          | false => simp
          | true => exact absurd ⟨h1, h2⟩ hok
theorem ws_law (x0 : Int) (x1 : Int) (x2 : List Nat) (x3 : List Nat) (x4 : List Nat) (h0 : -9223372036854775808 ≤ x0 ∧ x0 < 9223372036854775808) (h1 : -9223372036854775808 ≤ x1 ∧ x1 < 9223372036854775808) (h2 : x2.length ≤ maxN) (h3 : x3.length ≤ maxN) (h4 : x4.length ≤ maxN) : laws_FnExactWeighedSquares_g x0 x1 x2 x3 x4 = some true := by
  have q2 := h2
  have q3 := h3
  have q4 := h4
  unfold maxN at q2 q3 q4
  obtain ⟨r, i1, i2, i3⟩ := ws_both x0 x1 x2 x3 x4 h2 h3 h4
  have en := eqF_self [] (by simp [maxN])
  have hn := held_nil 1 (by omega) (by omega)
  have m2 := markM_ok x2 (1) h2 (by omega) (by omega)
  have m3 := mark_ok x3 (1 + x2.length) h3 (by omega) (by omega)
  have m4 := mark_ok x4 (1 + x2.length + x3.length) h4 (by omega) (by omega)
  have g1 : decide (((1 : Int) + x2.length + x3.length + x4.length : Int) < 0) = false := by simp; omega
  by_cases c3 : (1048576 : Int) < x3.length
  · simp [laws_FnExactWeighedSquares_g, laws_FnExactWeighedSquares_T, Tree.run, c3]
  by_cases c4 : (1048576 : Int) < x4.length
  · simp [laws_FnExactWeighedSquares_g, laws_FnExactWeighedSquares_T, Tree.run, c3, c4]
  cases z0 : decide (laws_szMatrix_v x2 (1048576) < 0)
  case true => simp only [laws_FnExactWeighedSquares_g, laws_FnExactWeighedSquares_T, Tree.run, c3, c4, z0, decide_false, Bool.false_eq_true, if_false, if_true] <;> simp [Tree.run, z0]
  have d3 : decide ((1048576 : Int) < x3.length) = false := by simpa using c3
  have d4 : decide ((1048576 : Int) < x4.length) = false := by simpa using c4
  cases r with
  | inl u =>
    simp only [laws_FnExactWeighedSquares_g, laws_FnExactWeighedSquares_T, Tree.run, i1, i2, en, hn, mark_nil, m2, toM_ok x0 x1 x2 h2, eqM_self x0 x1 x2 h2, m3, toF_ok x3 h3, eqF_self x3 h3, m4, toF_ok x4 h4, eqF_self x4 h4, g1, z0, d3, d4, Option.bind_some, Bool.false_eq_true, if_false, if_true, decide_true, Bool.not_true, Bool.not_false, beq_self_eq_true, marks_length]
    first | done | simp [Tree.run]
  | inr d0_ =>
    have hd := i3 _ rfl
    have e0 := hd
    have hd0 : d0_.length ≤ maxN := by unfold maxN; omega
    have md0 := mark_ok d0_ (1) hd0 (by omega) (by omega)
    have hl0 := held_ok (1) d0_.length hd0 (by omega) (by omega)
    have g20 : decide (((1 : Int) + d0_.length : Int) < 0) = false := by simp; omega
    simp only [laws_FnExactWeighedSquares_g, laws_FnExactWeighedSquares_T, Tree.run, i1, i2, en, hn, mark_nil, m2, toM_ok x0 x1 x2 h2, eqM_self x0 x1 x2 h2, m3, toF_ok x3 h3, eqF_self x3 h3, m4, toF_ok x4 h4, eqF_self x4 h4, g1, z0, d3, d4, md0, hl0, g20, eqF_self d0_ hd0, Option.bind_some, Bool.false_eq_true, if_false, if_true, decide_true, Bool.not_true, Bool.not_false, beq_self_eq_true, marks_length]
    first | done | simp [Tree.run]
theorem ws_lawL (x0 : Int) (x1 : Int) (x2 : Nat) (x3 : Nat) (x4 : Nat) (h0 : -9223372036854775808 ≤ x0 ∧ x0 < 9223372036854775808) (h1 : -9223372036854775808 ≤ x1 ∧ x1 < 9223372036854775808) (h2 : x2 < 9223372036854775808) (h3 : x3 < 9223372036854775808) (h4 : x4 < 9223372036854775808) (big : maxN < x2 ∨ maxN < x3 ∨ maxN < x4) : laws_FnExactWeighedSquares_len_g x2 x3 x4 = some true := by
  unfold maxN at big
  by_cases c3 : (1048576 : Int) < (x3 : Int)
  · simp [laws_FnExactWeighedSquares_len_g, laws_FnExactWeighedSquares_len_T, Tree.run, c3]
  by_cases c4 : (1048576 : Int) < (x4 : Int)
  · simp [laws_FnExactWeighedSquares_len_g, laws_FnExactWeighedSquares_len_T, Tree.run, c3, c4]
  by_cases k2 : (1048576 : Int) < (x2 : Int)
  · have e := szM_len1 x2 (1048576) h2 (by omega) (by omega) k2
    simp [laws_FnExactWeighedSquares_len_g, laws_FnExactWeighedSquares_len_T, Tree.run, c3, c4, e]
  have e2 := szM_len0 x2 (1048576) h2 (by omega) (by omega) k2
  have g2 : decide ((1048576 - (x2 : Int)) < 0) = false := by simp; omega
  omega
end Go.Proofs.Ytflodniglbgkhaa.AM
