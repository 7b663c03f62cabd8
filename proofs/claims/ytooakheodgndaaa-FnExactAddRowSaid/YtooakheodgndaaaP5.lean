/- A row is added to what lies above. -/
import Derived.Test.YtooakheodgndaaaP4
set_option linter.unusedSimpArgs false
set_option linter.unusedVariables false
namespace Go.Proofs.Ytooakheodgndaaa.AM

/-- What lies above. -/
def upL (n m : Nat) (M : List Nat) : List Nat := rc n m fun i k => if k < i then 0 else nth M (i * m + k)
@[simp] theorem upL_length (n m : Nat) (M : List Nat) : (upL n m M).length = n * m := by simp [upL]
theorem upI {n m : Nat} {M : List Nat} (hn : n ≤ 12) (hm : m ≤ 12) (hM : M.length = n * m) : impl_Matrix_upper_g n m M = some ((n : Int), (m : Int), upL n m M) := by
  have : impl_made_l0_g n m n m M n m ((0 : Int), List.replicate (n * m) 0) = some (upL n m M) := by
    refine made_gen (T0 := fun s => (impl_made_l0_T n m n m M n m s).run) (T2 := fun i s => (impl_made_l2_T m m M i n m s).run) (n := n) (m := m) ?_ ?_ ?_ ?_
    · intro i k s hi hk hs
      have hc : impl_Matrix_upper_1_g (i : Int) (k : Int) m M = some (if k < i then 0 else nth M (i * m + k)) := by
        simp only [impl_Matrix_upper_1_g, impl_Matrix_upper_1_T, Tree.run, lt_nat, atI hi hk hn hm hM, Option.bind_some, decide_eq_true_eq]
        split <;> rfl
      simp only [impl_made_l2_T, Tree.run, lt_nat, hk, decide_true, if_true, hc, setR hi hk hn hm hs, Option.bind_some, atw hi hk hn hm, Int.toNat_natCast, List.length_set, w1 (show k ≤ 1000 by omega)]
    · intro i s hi; simp [impl_made_l2_T, Tree.run]
    · intro i s s' hi h
      have h' : impl_made_l2_g m m M i n m ((0 : Int), s) = some s' := h
      simp only [impl_made_l0_T, Tree.run, lt_nat, hi, decide_true, if_true, h', Option.bind_some, w1 (show i ≤ 1000 by omega)]
    · intro s; simp [impl_made_l0_T, Tree.run]
  simp only [impl_Matrix_upper_g, impl_Matrix_upper_T, impl_made_g, impl_made_T, Tree.run, newR hn hm, mulw hn hm, Int.toNat_natCast, this, Option.bind_some, if_true]
theorem set_sub {xs : List Nat} {p j : Nat} {v : Nat} (h : p < xs.length) : nth (xs.set p v) j = if p = j then v else nth xs j := by
  split
  · rename_i e; subst e; exact nth_set_eq _ _ _ h
  · rename_i e; exact nth_set_ne _ _ _ _ e
theorem rc_inj {m i k j l : Nat} (hk : k < m) (hl : l < m) (h : i * m + k = j * m + l) : i = j ∧ k = l := by
  have h1 := rc_div (i := i) hk
  have h2 := rc_div (i := j) hl
  have h3 := rc_mod (i := i) hk
  have h4 := rc_mod (i := j) hl
  rw [h] at h1 h3
  omega
theorem upS {n : Nat} {M : List Nat} (hn : n ≤ 12) (hM : M.length = n * n) : spec_l03Upper_g n n M = some ((n : Int), (n : Int), upL n n M) := by
  have hb := le144 hn hn
  -- a row
  have row : ∀ (i : Nat) (s : List Nat), i < n → s.length = n * n → ∃ s', spec_l03Upper_l2_g (i : Int) n n ((0 : Int), s) = some s' ∧ s'.length = n * n ∧ ∀ j l, j < n → l < n → nth s' (j * n + l) = if j = i ∧ l < i then 0 else nth s (j * n + l) := by
    intro i s hi hs
    have key : ∀ (d k : Nat) (s : List Nat), k + d = i → s.length = n * n → ∃ s', spec_l03Upper_l2_g (i : Int) n n ((k : Int), s) = some s' ∧ s'.length = n * n ∧ ∀ j l, j < n → l < n → nth s' (j * n + l) = if j = i ∧ k ≤ l ∧ l < i then 0 else nth s (j * n + l) := by
      intro d
      induction d with
      | zero =>
        intro k s hk hs
        refine ⟨s, whileM_inr (T := fun s => (spec_l03Upper_l2_T (i : Int) n n s).run) (by simp [spec_l03Upper_l2_T, Tree.run]; omega), hs, fun j l hj hl => ?_⟩
        rw [if_neg (by omega)]
      | succ d ih =>
        intro k s hk hs
        have hki : k < i := by omega
        have hlt : i * n + k < s.length := by rw [hs]; exact rc_lt hi (by omega)
        obtain ⟨s', g1, g2, g3⟩ := ih (k + 1) (s.set (i * n + k) 0) (by omega) (by simp [hs])
        refine ⟨s', whileM_inl (T := fun s => (spec_l03Upper_l2_T (i : Int) n n s).run) ?_ g1, g2, fun j l hj hl => ?_⟩
        · simp only [spec_l03Upper_l2_T, Tree.run, lt_nat, hki, decide_true, if_true, atw hi (show k < n by omega) hn hn, inb_nat, hlt, Int.toNat_natCast, w1 (show k ≤ 1000 by omega)]
        · rw [g3 j l hj hl, set_sub hlt]
          by_cases h1 : j = i ∧ k + 1 ≤ l ∧ l < i
          · rw [if_pos h1, if_pos (by omega)]
          · rw [if_neg h1]
            by_cases h2 : i * n + k = j * n + l
            · obtain ⟨e1, e2⟩ := rc_inj (show k < n by omega) hl h2
              rw [if_pos h2, if_pos (by omega)]
            · rw [if_neg h2]
              rw [if_neg]
              rintro ⟨e1, e2, e3⟩
              subst e1
              apply h1
              refine ⟨rfl, ?_, e3⟩
              rcases Nat.lt_or_eq_of_le e2 with h | h
              · exact h
              · subst h; exact absurd rfl h2
    obtain ⟨s', g1, g2, g3⟩ := key i 0 s (by omega) hs
    exact ⟨s', g1, g2, fun j l hj hl => by rw [g3 j l hj hl]; simp⟩
  have all : ∀ (d i : Nat) (s : List Nat), i + d = n → s.length = n * n → ∃ s', spec_l03Upper_l0_g n n M n n ((i : Int), s) = some s' ∧ s'.length = n * n ∧ ∀ j l, j < n → l < n → nth s' (j * n + l) = if i ≤ j ∧ l < j then 0 else nth s (j * n + l) := by
    intro d
    induction d with
    | zero =>
      intro i s hi hs
      refine ⟨s, whileM_inr (T := fun s => (spec_l03Upper_l0_T n n M n n s).run) (by simp [spec_l03Upper_l0_T, Tree.run]; omega), hs, fun j l hj hl => ?_⟩
      rw [if_neg (by omega)]
    | succ d ih =>
      intro i s hi hs
      have hin : i < n := by omega
      obtain ⟨s1, r1, r2, r3⟩ := row i s hin hs
      obtain ⟨s', g1, g2, g3⟩ := ih (i + 1) s1 (by omega) r2
      refine ⟨s', whileM_inl (T := fun s => (spec_l03Upper_l0_T n n M n n s).run) ?_ g1, g2, fun j l hj hl => ?_⟩
      · simp only [spec_l03Upper_l0_T, Tree.run, lt_nat, hin, decide_true, if_true, r1, Option.bind_some, w1 (show i ≤ 1000 by omega)]
      · rw [g3 j l hj hl, r3 j l hj hl]
        by_cases h1 : i + 1 ≤ j ∧ l < j
        · rw [if_pos h1, if_pos (by omega)]
        · rw [if_neg h1]
          by_cases h2 : j = i ∧ l < i
          · rw [if_pos h2, if_pos (by omega)]
          · rw [if_neg h2, if_neg (by omega)]
  obtain ⟨s', g1, g2, g3⟩ := all n 0 M (by omega) hM
  have he : s' = upL n n M := rc_ext g2 fun i k hi hk => by rw [g3 i k hi hk]; simp
  rw [he] at g1
  have hf : fits M.length = true := fitsN (by omega)
  have g1' : spec_l03Upper_l0_g n n M n n ((0 : Int), M) = some (upL n n M) := g1
  simp only [spec_l03Upper_g, spec_l03Upper_T, spec_l02Own_g, spec_l02Own_T, Tree.run, List.nil_append, hf, g1', Option.bind_some, if_true]
theorem ar2 {n k : Nat} (x y : Nat) (hk : k < n) (hn : n ≤ 12) : ∀ (d j : Nat) (v R : List Nat), j + d = n → v.length = n → R.length = n * n →
    ∃ r, impl_AddRow_l2_g k x y n n ((j : Int), v, R) = some r ∧ spec_AddRow_l2_g n k x y n ((j : Int), v, R) = some r ∧ r.1.length = n ∧ r.2.length = n * n := by
  intro d
  induction d with
  | zero =>
    intro j v R hj hv hR
    have : j = n := by omega
    subst this
    exact ⟨(v, R), whileM_inr (T := fun s => (impl_AddRow_l2_T k x y j j s).run) (by simp [impl_AddRow_l2_T, Tree.run]), whileM_inr (T := fun s => (spec_AddRow_l2_T j k x y j s).run) (by simp [spec_AddRow_l2_T, Tree.run]), hv, hR⟩
  | succ d ih =>
    intro j v R hj hv hR
    have hjn : j < n := by omega
    have hlt : k * n + j < R.length := by rw [hR]; exact rc_lt hk hjn
    obtain ⟨r, g1, g2, g3⟩ := ih (j + 1) (v.set j (fsub .f32 (fmul .f32 x (nth v j)) (fmul .f32 y (nth R (k * n + j))))) (R.set (k * n + j) (fadd .f32 (fmul .f32 x (nth R (k * n + j))) (fmul .f32 y (nth v j)))) (by omega) (by simp [hv]) (by simp [hR])
    refine ⟨r, whileM_inl (T := fun s => (impl_AddRow_l2_T k x y n n s).run) ?_ g1, whileM_inl (T := fun s => (spec_AddRow_l2_T n k x y n s).run) ?_ g2, g3⟩
    · simp only [impl_AddRow_l2_T, impl_mul_v, Tree.run, lt_nat, hjn, decide_true, if_true, atI hk hjn hn hn hR, setR hk hjn hn hn hR, Option.bind_some, inb_nat, hv, atw hk hjn hn hn, Int.toNat_natCast, List.length_set, w1 (show j ≤ 1000 by omega)]
    · simp only [spec_AddRow_l2_T, Tree.run, lt_nat, hjn, decide_true, if_true, atS hk hjn hn hn hR, Option.bind_some, inb_nat, hv, hlt, atw hk hjn hn hn, Int.toNat_natCast, w1 (show j ≤ 1000 by omega)]
theorem ar0 {n : Nat} (A b : List Nat) (hn : n ≤ 12) (v R : List Nat) (hv : v.length = n) (hR : R.length = n * n) :
    ∃ r, impl_AddRow_l0_g n n A b n n ((0 : Int), v, R) = some r ∧ spec_AddRow_l0_g n n A b n n ((0 : Int), v, R) = some r ∧ r.length = n * n := by
  refine for2 (T := fun s => (impl_AddRow_l0_T n n A b n n s).run) (T' := fun s => (spec_AddRow_l0_T n n A b n n s).run) (n := n) (s := (v, R)) (fun _ s => s.1.length = n ∧ s.2.length = n * n) (fun r => r.length = n * n) ⟨hv, hR⟩ ?_ ?_
  · rintro k ⟨v, R⟩ hk ⟨hv, hR⟩
    simp only at hv hR
    obtain ⟨y, hy⟩ := sqrt_conv (fadd .f32 (fmul .f32 (nth R (k * n + k)) (nth R (k * n + k))) (fmul .f32 (nth v k) (nth v k)))
    have rI := rootI _ y hy
    have rS := rootS _ y hy
    have hvk : decide (k < v.length) = true := by simp; omega
    cases hg : fgrt .f32 y 0 with
    | false =>
      refine .inl ⟨(v, R), ?_, ?_, hv, hR⟩
      · simp only [impl_AddRow_l0_T, impl_mul_v, Tree.run, lt_nat, hk, decide_true, if_true, atI hk hk hn hn hR, inb_nat, hvk, rI, hg, Option.bind_some, Int.toNat_natCast, Bool.not_false, w1 (show k ≤ 1000 by omega)]
      · simp only [spec_AddRow_l0_T, Tree.run, lt_nat, hk, decide_true, if_true, atS hk hk hn hn hR, inb_nat, hvk, rS, hg, Option.bind_some, Int.toNat_natCast, Bool.not_false, w1 (show k ≤ 1000 by omega)]
    | true =>
      obtain ⟨⟨v', R'⟩, g1, g2, g3, g4⟩ := ar2 (fdiv .f32 (nth R (k * n + k)) y) (fdiv .f32 (nth v k) y) hk hn (n - k) k v R (by omega) hv hR
      refine .inl ⟨(v', R'), ?_, ?_, g3, g4⟩
      · simp only [impl_AddRow_l0_T, impl_mul_v, Tree.run, lt_nat, hk, decide_true, if_true, atI hk hk hn hn hR, inb_nat, hvk, rI, hg, g1, Option.bind_some, Int.toNat_natCast, Bool.not_true, Bool.false_eq_true, if_false, w1 (show k ≤ 1000 by omega)]
      · simp only [spec_AddRow_l0_T, Tree.run, lt_nat, hk, decide_true, if_true, atS hk hk hn hn hR, inb_nat, hvk, rS, hg, g2, Option.bind_some, Int.toNat_natCast, Bool.not_true, Bool.false_eq_true, if_false, w1 (show k ≤ 1000 by omega)]
  · rintro ⟨v, R⟩ ⟨hv, hR⟩
    exact ⟨R, by simp [impl_AddRow_l0_T, Tree.run], by simp [spec_AddRow_l0_T, Tree.run], hR⟩
theorem sqI (r c : Int) (x : List Nat) (hx : x.length ≤ maxN) : impl_isSquare_g r c x = some (vm r c x && decide (r = c)) := by
  simp only [impl_isSquare_g, impl_isSquare_T, Tree.run, vmI r c x hx, Option.bind_some]
  cases vm r c x <;> simp
theorem sqS (r c : Int) (x : List Nat) (hx : x.length ≤ maxN) : spec_l02Square_g r c x = some (vm r c x && decide (r = c)) := by
  simp only [spec_l02Square_g, spec_l02Square_T, Tree.run, vmS r c x hx, Option.bind_some]
  cases vm r c x <;> simp
theorem ar_both (r c : Int) (x b : List Nat) (hx : x.length ≤ maxN) (hb : b.length ≤ maxN) : ∃ o, impl_AddRow_g r c x b = some o ∧ spec_AddRow_g r c x b = some o ∧ ∀ d, o = .inr d → d.2.2.length ≤ 144 := by
  have qI := sqI r c x hx
  have qS := sqS r c x hx
  have bI := isVecI b hb
  have bS := isVecS b hb
  cases hv : (vm r c x && decide (r = c)) with
  | false =>
    rw [hv] at qI qS
    exact ⟨.inl (), by simp [impl_AddRow_g, impl_AddRow_T, Tree.run, qI], by simp [spec_AddRow_g, spec_AddRow_T, Tree.run, qS], fun d h => by cases h⟩
  | true =>
  rw [hv] at qI qS
  cases hbv : (decide ((1 : Int) ≤ b.length) && decide ((b.length : Int) ≤ 256) && b.all sfin) with
  | false =>
    rw [hbv] at bI bS
    exact ⟨.inl (), by simp [impl_AddRow_g, impl_AddRow_T, Tree.run, qI, bI], by simp [spec_AddRow_g, spec_AddRow_T, Tree.run, qS, bS], fun d h => by cases h⟩
  | true =>
  rw [hbv] at bI bS
  simp only [Bool.and_eq_true, decide_eq_true_eq] at hv
  obtain ⟨hv, rfl⟩ := hv
  obtain ⟨n, m, rfl, e, a1, a2, a3, a4, a5, a6⟩ := vm_shape hv
  have e : n = m := by omega
  subst e
  by_cases hbr : (b.length : Int) = (n : Int)
  case neg =>
    have hdI : decide (impl_lengthF_v b = (n : Int)) = false := decide_eq_false hbr
    have hdS : decide ((b.length : Int) = (n : Int)) = false := by simpa using hbr
    exact ⟨.inl (), by simp only [impl_AddRow_g, impl_AddRow_T, Tree.run, qI, bI, hdI, Option.bind_some, Bool.not_true, Bool.not_false, Bool.false_eq_true, if_false, if_true],
      by simp only [spec_AddRow_g, spec_AddRow_T, Tree.run, qS, bS, hdS, Option.bind_some, Bool.not_true, Bool.not_false, Bool.false_eq_true, if_false, if_true], fun d h => by cases h⟩
  have hbl : b.length = n := by omega
  have hdI : decide (impl_lengthF_v b = (n : Int)) = true := decide_eq_true hbr
  have hdS : decide ((b.length : Int) = (n : Int)) = true := by simpa using hbr
  have hb2 := le144 a2 a2
  obtain ⟨d, g1, g2, g3⟩ := ar0 x b a2 b (upL n n x) hbl (by simp)
  have q1 : decide (0 < b.length) = true := by simp; omega
  have q2 : fits b.length = true := fitsN (by omega)
  have hcl : slices_CloneF_g b = some () := by simp only [slices_CloneF_g, slices_CloneF_T, Tree.run, List.nil_append, q1, q2, if_true]
  have kI := validR a1 a2 a1 a2 g3
  have kS := giveR a1 a2 a1 a2 g3
  refine ⟨if d.all sfin = true then .inr ((n : Int), (n : Int), d) else .inl (), ?_, ?_, ?_⟩
  · simp only [impl_AddRow_g, impl_AddRow_T, Tree.run, qI, bI, hdI, upI a2 a2 a5, hcl, List.nil_append, g1, kI, Option.bind_some, Bool.not_true, Bool.false_eq_true, if_false, if_true]
    split <;> simp [Tree.run]
  · simp only [spec_AddRow_g, spec_AddRow_T, Tree.run, qS, bS, hdS, upS a2 a5, q2, List.nil_append, g2, kS, Option.bind_some, Bool.not_true, Bool.false_eq_true, if_false, if_true]
    split <;> simp [Tree.run]
  · intro d' h'
    split at h'
    · cases h'; simp only; omega
    · cases h'
theorem ar_law (x0 : Int) (x1 : Int) (x2 : List Nat) (x3 : List Nat) (h0 : -9223372036854775808 ≤ x0 ∧ x0 < 9223372036854775808) (h1 : -9223372036854775808 ≤ x1 ∧ x1 < 9223372036854775808) (h2 : x2.length ≤ maxN) (h3 : x3.length ≤ maxN) : laws_FnExactAddRow_g x0 x1 x2 x3 = some true := by
  have q2 := h2
  have q3 := h3
  unfold maxN at q2 q3
  obtain ⟨r, i1, i2, i3⟩ := ar_both x0 x1 x2 x3 h2 h3
  have enM := eqM_self 0 0 [] (by simp [maxN])
  have hnM := heldM_nil 1 (by omega) (by omega)
  have m2 := markM_ok x2 (1) h2 (by omega) (by omega)
  have m3 := mark_ok x3 (1 + x2.length) h3 (by omega) (by omega)
  have g1 : decide (((1 : Int) + x2.length + x3.length : Int) < 0) = false := by simp; omega
  by_cases c3 : (1048576 : Int) < x3.length
  · simp [laws_FnExactAddRow_g, laws_FnExactAddRow_T, Tree.run, c3]
  cases z0 : decide (laws_szMatrix_v x2 (1048576) < 0)
  case true => simp only [laws_FnExactAddRow_g, laws_FnExactAddRow_T, Tree.run, c3, z0, decide_false, Bool.false_eq_true, if_false, if_true] <;> simp [Tree.run, z0]
  have d3 : decide ((1048576 : Int) < x3.length) = false := by simpa using c3
  cases r with
  | inl u =>
    simp only [laws_FnExactAddRow_g, laws_FnExactAddRow_T, Tree.run, i1, i2, enM, hnM, markM_nil, m2, toM_ok x0 x1 x2 h2, eqM_self x0 x1 x2 h2, m3, toF_ok x3 h3, eqF_self x3 h3, g1, z0, d3, Option.bind_some, Bool.false_eq_true, if_false, if_true, decide_true, Bool.not_true, Bool.not_false, beq_self_eq_true, marks_length]
    first | done | simp [Tree.run]
  | inr d =>
    obtain ⟨a0, b0, d0_⟩ := d
    have hd := i3 _ rfl
    simp only at hd
    have e0 := hd
    have hd0 : d0_.length ≤ maxN := by unfold maxN; omega
    have md0 := markM_ok d0_ (1) hd0 (by omega) (by omega)
    have hl0 := heldM_ok (1) d0_.length hd0 (by omega) (by omega)
    have g20 : decide (((1 : Int) + d0_.length : Int) < 0) = false := by simp; omega
    simp only [laws_FnExactAddRow_g, laws_FnExactAddRow_T, Tree.run, i1, i2, enM, hnM, markM_nil, m2, toM_ok x0 x1 x2 h2, eqM_self x0 x1 x2 h2, m3, toF_ok x3 h3, eqF_self x3 h3, g1, z0, d3, md0, hl0, g20, eqM_self a0 b0 d0_ hd0, Option.bind_some, Bool.false_eq_true, if_false, if_true, decide_true, Bool.not_true, Bool.not_false, beq_self_eq_true, marks_length]
    first | done | simp [Tree.run]
theorem ar_lawL (x0 : Int) (x1 : Int) (x2 : Nat) (x3 : Nat) (h0 : -9223372036854775808 ≤ x0 ∧ x0 < 9223372036854775808) (h1 : -9223372036854775808 ≤ x1 ∧ x1 < 9223372036854775808) (h2 : x2 < 9223372036854775808) (h3 : x3 < 9223372036854775808) (big : maxN < x2 ∨ maxN < x3) : laws_FnExactAddRow_len_g x2 x3 = some true := by
  unfold maxN at big
  by_cases c3 : (1048576 : Int) < (x3 : Int)
  · simp [laws_FnExactAddRow_len_g, laws_FnExactAddRow_len_T, Tree.run, c3]
  by_cases k2 : (1048576 : Int) < (x2 : Int)
  · have e := szM_len1 x2 (1048576) h2 (by omega) (by omega) k2
    simp [laws_FnExactAddRow_len_g, laws_FnExactAddRow_len_T, Tree.run, c3, e]
  have e2 := szM_len0 x2 (1048576) h2 (by omega) (by omega) k2
  have g2 : decide ((1048576 - (x2 : Int)) < 0) = false := by simp; omega
  omega
end Go.Proofs.Ytooakheodgndaaa.AM
