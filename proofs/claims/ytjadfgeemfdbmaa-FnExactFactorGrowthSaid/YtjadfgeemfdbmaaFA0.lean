/- Factors: which are valid; triangles; units. -/
import Derived.Test.YtjadfgeemfdbmaaOR0
set_option linter.unusedSimpArgs false
set_option linter.unusedVariables false
set_option maxHeartbeats 1000000
namespace Go.Proofs.Ytjadfgeemfdbmaa.AM

theorem ord_comm (a b : Ieee.Datum) : (a.order b == some .eq) = (b.order a == some .eq) := by
  cases a with
  | nan => cases b <;> rfl
  | infinity s =>
    cases b with
    | nan => rfl
    | infinity t => cases s <;> cases t <;> rfl
    | number t n j => cases s <;> rfl
  | number s m i =>
    cases b with
    | nan => rfl
    | infinity t => cases t <;> rfl
    | number t n j =>
      simp only [Ieee.Datum.order]
      rw [Int.min_comm j i, Bool.eq_iff_iff]
      simp only [beq_iff_eq, Option.some.injEq, Int.compare_eq_eq]
      exact eq_comm
theorem feq_comm (k : FloatKind) (x y : Nat) : feq k x y = feq k y x := by
  unfold feq Ieee.Format.order
  exact ord_comm _ _
theorem whileM_inl {σ ρ : Type} {T : σ → Option (σ ⊕ ρ)} {s s' : σ} {r : Option ρ} (h : T s = some (.inl s')) (h' : whileM T s' = r) : whileM T s = r := by rw [whileM_eq, h]; exact h'
theorem whileM_inr {σ ρ : Type} {T : σ → Option (σ ⊕ ρ)} {s : σ} {r : ρ} (h : T s = some (.inr r)) : whileM T s = some r := by rw [whileM_eq, h]
/-- What lies above. -/
def upL (n m : Nat) (M : List Nat) : List Nat := rc n m fun i k => if k < i then 0 else nth M (i * m + k)
@[simp] theorem upL_length (n m : Nat) (M : List Nat) : (upL n m M).length = n * m := by simp [upL]
theorem upI {n m : Nat} {M : List Nat} (hn : n ≤ 12) (hm : m ≤ 12) (hM : M.length = n * m) : impl_Matrix_upper_g n m M = some ((n : Int), (m : Int), upL n m M) := by
  have : impl_made_l0_g n m n m M n m ((0 : Int), List.replicate (n * m) 0) = some (upL n m M) := by
    refine made_gen (T0 := fun s => (impl_made_l0_T n m n m M n m s).run) (T2 := fun i s => (impl_made_l2_T m m M i n m s).run) (n := n) (m := m) ?_ ?_ ?_ ?_
    · intro i k s hi hk hs
      have hc : impl_Matrix_upper_1_g (i : Int) (k : Int) m M = some (if k < i then 0 else nth M (i * m + k)) := by
        simp only [impl_Matrix_upper_1_g, impl_Matrix_upper_1_T, Tree.run, lt_nat, atI hi hk hn hm hM, Option.bind_some, decide_eq_true_eq]
        split <;> rfl
      simp only [impl_made_l2_T, Tree.run, lt_nat, hk, decide_true, if_true, hc, setR hi hk hn hm hs, Option.bind_some, atw hi hk hn hm, Int.toNat_natCast, List.length_set, w1 (show k ≤ 1000 by omega)]
    · intro i s hi; simp [impl_made_l2_T, Tree.run]
    · intro i s s' hi h
      have h' : impl_made_l2_g m m M i n m ((0 : Int), s) = some s' := h
      simp only [impl_made_l0_T, Tree.run, lt_nat, hi, decide_true, if_true, h', Option.bind_some, w1 (show i ≤ 1000 by omega)]
    · intro s; simp [impl_made_l0_T, Tree.run]
  simp only [impl_Matrix_upper_g, impl_Matrix_upper_T, impl_made_g, impl_made_T, Tree.run, newR hn hm, mulw hn hm, Int.toNat_natCast, this, Option.bind_some, if_true]
theorem set_sub {xs : List Nat} {p j : Nat} {v : Nat} (h : p < xs.length) : nth (xs.set p v) j = if p = j then v else nth xs j := by
  split
  · rename_i e; subst e; exact nth_set_eq _ _ _ h
  · rename_i e; exact nth_set_ne _ _ _ _ e
theorem rc_inj {m i k j l : Nat} (hk : k < m) (hl : l < m) (h : i * m + k = j * m + l) : i = j ∧ k = l := by
  have h1 := rc_div (i := i) hk
  have h2 := rc_div (i := j) hl
  have h3 := rc_mod (i := i) hk
  have h4 := rc_mod (i := j) hl
  rw [h] at h1 h3
  omega
theorem upS {n : Nat} {M : List Nat} (hn : n ≤ 12) (hM : M.length = n * n) : spec_l03Upper_g n n M = some ((n : Int), (n : Int), upL n n M) := by
  have hb := le144 hn hn
  -- a row
  have row : ∀ (i : Nat) (s : List Nat), i < n → s.length = n * n → ∃ s', spec_l03Upper_l2_g (i : Int) n n ((0 : Int), s) = some s' ∧ s'.length = n * n ∧ ∀ j l, j < n → l < n → nth s' (j * n + l) = if j = i ∧ l < i then 0 else nth s (j * n + l) := by
    intro i s hi hs
    have key : ∀ (d k : Nat) (s : List Nat), k + d = i → s.length = n * n → ∃ s', spec_l03Upper_l2_g (i : Int) n n ((k : Int), s) = some s' ∧ s'.length = n * n ∧ ∀ j l, j < n → l < n → nth s' (j * n + l) = if j = i ∧ k ≤ l ∧ l < i then 0 else nth s (j * n + l) := by
      intro d
      induction d with
      | zero =>
        intro k s hk hs
        refine ⟨s, whileM_inr (T := fun s => (spec_l03Upper_l2_T (i : Int) n n s).run) (by simp [spec_l03Upper_l2_T, Tree.run]; omega), hs, fun j l hj hl => ?_⟩
        rw [if_neg (by omega)]
      | succ d ih =>
        intro k s hk hs
        have hki : k < i := by omega
        have hlt : i * n + k < s.length := by rw [hs]; exact rc_lt hi (by omega)
        obtain ⟨s', g1, g2, g3⟩ := ih (k + 1) (s.set (i * n + k) 0) (by omega) (by simp [hs])
        refine ⟨s', whileM_inl (T := fun s => (spec_l03Upper_l2_T (i : Int) n n s).run) ?_ g1, g2, fun j l hj hl => ?_⟩
        · simp only [spec_l03Upper_l2_T, Tree.run, lt_nat, hki, decide_true, if_true, atw hi (show k < n by omega) hn hn, inb_nat, hlt, Int.toNat_natCast, w1 (show k ≤ 1000 by omega)]
        · rw [g3 j l hj hl, set_sub hlt]
          by_cases h1 : j = i ∧ k + 1 ≤ l ∧ l < i
          · rw [if_pos h1, if_pos (by omega)]
          · rw [if_neg h1]
            by_cases h2 : i * n + k = j * n + l
            · obtain ⟨e1, e2⟩ := rc_inj (show k < n by omega) hl h2
              rw [if_pos h2, if_pos (by omega)]
            · rw [if_neg h2]
              rw [if_neg]
              rintro ⟨e1, e2, e3⟩
              subst e1
              apply h1
              refine ⟨rfl, ?_, e3⟩
              rcases Nat.lt_or_eq_of_le e2 with h | h
              · exact h
              · subst h; exact absurd rfl h2
    obtain ⟨s', g1, g2, g3⟩ := key i 0 s (by omega) hs
    exact ⟨s', g1, g2, fun j l hj hl => by rw [g3 j l hj hl]; simp⟩
  have all : ∀ (d i : Nat) (s : List Nat), i + d = n → s.length = n * n → ∃ s', spec_l03Upper_l0_g n n M n n ((i : Int), s) = some s' ∧ s'.length = n * n ∧ ∀ j l, j < n → l < n → nth s' (j * n + l) = if i ≤ j ∧ l < j then 0 else nth s (j * n + l) := by
    intro d
    induction d with
    | zero =>
      intro i s hi hs
      refine ⟨s, whileM_inr (T := fun s => (spec_l03Upper_l0_T n n M n n s).run) (by simp [spec_l03Upper_l0_T, Tree.run]; omega), hs, fun j l hj hl => ?_⟩
      rw [if_neg (by omega)]
    | succ d ih =>
      intro i s hi hs
      have hin : i < n := by omega
      obtain ⟨s1, r1, r2, r3⟩ := row i s hin hs
      obtain ⟨s', g1, g2, g3⟩ := ih (i + 1) s1 (by omega) r2
      refine ⟨s', whileM_inl (T := fun s => (spec_l03Upper_l0_T n n M n n s).run) ?_ g1, g2, fun j l hj hl => ?_⟩
      · simp only [spec_l03Upper_l0_T, Tree.run, lt_nat, hin, decide_true, if_true, r1, Option.bind_some, w1 (show i ≤ 1000 by omega)]
      · rw [g3 j l hj hl, r3 j l hj hl]
        by_cases h1 : i + 1 ≤ j ∧ l < j
        · rw [if_pos h1, if_pos (by omega)]
        · rw [if_neg h1]
          by_cases h2 : j = i ∧ l < i
          · rw [if_pos h2, if_pos (by omega)]
          · rw [if_neg h2, if_neg (by omega)]
  obtain ⟨s', g1, g2, g3⟩ := all n 0 M (by omega) hM
  have he : s' = upL n n M := rc_ext g2 fun i k hi hk => by rw [g3 i k hi hk]; simp
  rw [he] at g1
  have hf : fits M.length = true := fitsN (by omega)
  have g1' : spec_l03Upper_l0_g n n M n n ((0 : Int), M) = some (upL n n M) := g1
  simp only [spec_l03Upper_g, spec_l03Upper_T, spec_l02Own_g, spec_l02Own_T, Tree.run, List.nil_append, hf, g1', Option.bind_some, if_true]
theorem sqI (r c : Int) (x : List Nat) (hx : x.length ≤ maxN) : impl_isSquare_g r c x = some (vm r c x && decide (r = c)) := by
  simp only [impl_isSquare_g, impl_isSquare_T, Tree.run, vmI r c x hx, Option.bind_some]
  cases vm r c x <;> simp
theorem sqS (r c : Int) (x : List Nat) (hx : x.length ≤ maxN) : spec_l02Square_g r c x = some (vm r c x && decide (r = c)) := by
  simp only [spec_l02Square_g, spec_l02Square_T, Tree.run, vmS r c x hx, Option.bind_some]
  cases vm r c x <;> simp
def unitL (n : Nat) : List Nat := rc n n fun i k => if i = k then 1065353216 else 0
@[simp] theorem unitL_length (n : Nat) : (unitL n).length = n * n := by simp [unitL]
theorem toFa_ok (r c : Int) (M : List Nat) (xs : List Int) (hM : M.length ≤ maxN) (hx : xs.length ≤ maxN) : laws_toFactor_g r c M xs = some (r, c, M, xs) := by
  simp only [laws_toFactor_g, laws_toFactor_T, Tree.run, toM_ok r c M hM, toI_ok xs hx, Option.bind_some]
theorem eqFa_self (r c : Int) (M : List Nat) (xs : List Int) (hM : M.length ≤ maxN) (hx : xs.length ≤ maxN) : laws_eqFactor_g r c M xs r c M xs = some true := by
  simp [laws_eqFactor_g, laws_eqFactor_T, Tree.run, eqM_self r c M hM, eqI_self xs hx]
theorem szFa_len (a b : Nat) (l : Int) (ha : a < 9223372036854775808) (hb : b < 9223372036854775808) (h0 : 0 ≤ l) (h1 : l ≤ 1048576) (big : maxN < a ∨ maxN < b) : decide (laws_szFactor_len_v a b l < 0) = true := by
  unfold maxN at big
  unfold laws_szFactor_len_v
  by_cases k : l < (a : Int)
  · rw [szM_len1 a l ha h0 h1 k]; rfl
  · rw [szM_len0 a l ha h0 h1 k]
    have e : IntKind.i64.wrap (l - (a : Int) - (b : Int)) = l - a - b := w64 (by omega) (by omega)
    have d : decide (l - (a : Int) < 0) = false := decide_eq_false (by omega)
    have d2 : decide (l - (a : Int) - (b : Int) < 0) = true := decide_eq_true (by omega)
    simp only [d, laws_szInt64S_len_v, e, d2, if_true, Bool.false_eq_true, if_false]
    rfl
/-- The middle of a square. -/
def diagL (n : Nat) (M : List Nat) : List Nat := (List.range n).map fun i => nth M (i * n + i)
theorem middleI {n : Nat} {M : List Nat} (hn : n ≤ 12) (hM : M.length = n * n) : impl_Matrix_middle_g n n M = some (diagL n M) := by
  have im : imin (n : Int) (n : Int) = n := by unfold imin; split <;> rfl
  have : impl_Matrix_middle_l0_g n n M ((0 : Int), ([] : List Nat)) = some (diagL n M) := by
    refine appI (T := fun s => (impl_Matrix_middle_l0_T n n M s).run) ?_ ?_
    · intro i s hi hs
      simp only [impl_Matrix_middle_l0_T, Tree.run, im, lt_nat, hi, decide_true, if_true, atI hi hi hn hn hM, Option.bind_some, w1 (show i ≤ 1000 by omega)]
      rw [if_pos (fitsN (by simp; omega))]
    · intro s
      simp [impl_Matrix_middle_l0_T, Tree.run, im]
  simp only [impl_Matrix_middle_g, impl_Matrix_middle_T, Tree.run, this, Option.bind_some, if_true]
def ordB (xs : List Int) : Bool := decide (1 ≤ (xs.length : Int)) && decide ((xs.length : Int) ≤ 12) && PM.permB xs
/-- A valid factor. -/
def facB (r c : Int) (M : List Nat) (xs : List Int) : Bool := vm r c M && decide (r = c) && (!((diagL r.toNat M).any fun y => feq .f32 y 0) && (ordB xs && decide ((xs.length : Int) = r)))
theorem facI (r c : Int) (M : List Nat) (xs : List Int) (hM : M.length ≤ maxN) : impl_ValidFactor_g r c M xs = some (facB r c M xs) := by
  have q := sqI r c M hM
  unfold facB
  cases hv : (vm r c M && decide (r = c)) with
  | false =>
    rw [hv] at q
    simp only [impl_ValidFactor_g, impl_ValidFactor_T, Tree.run, q, Option.bind_some, Bool.false_eq_true, if_false, Bool.false_and]
  | true =>
    rw [hv] at q
    simp only [Bool.and_eq_true, decide_eq_true_eq] at hv
    obtain ⟨n, m, e1, e2, n1, n2, m1, m2, hl, _⟩ := vm_shape hv.1
    have hnm : m = n := by have := hv.2; omega
    subst hnm
    subst e1
    subst e2
    have cF := contF (diagL m M) 0 (by simp [diagL, maxN]; omega)
    have ce : ((diagL m M).any fun y => feq .f32 0 y) = ((diagL m M).any fun y => feq .f32 y 0) := by
      congr 1; funext y; exact feq_comm _ _ _
    rw [ce] at cF
    have oI := orderI xs
    have hle : (decide (impl_lengthI_v xs = (m : Int))) = decide ((xs.length : Int) = m) := rfl
    simp only [impl_ValidFactor_g, impl_ValidFactor_T, Tree.run, q, middleI n2 hl, cF, oI, hle, Option.bind_some, if_true, Bool.true_and, Int.toNat_natCast, ordB]
    cases ((diagL m M).any fun y => feq .f32 y 0) with
    | true => simp
    | false => cases (decide (1 ≤ (xs.length : Int)) && decide ((xs.length : Int) ≤ 12) && PM.permB xs) <;> simp
theorem facS (r c : Int) (M : List Nat) (xs : List Int) (hM : M.length ≤ maxN) : spec_l03Is_g r c M xs = some (facB r c M xs) := by
  have q := sqS r c M hM
  unfold facB
  cases hv : (vm r c M && decide (r = c)) with
  | false =>
    rw [hv] at q
    simp only [spec_l03Is_g, spec_l03Is_T, Tree.run, q, Option.bind_some, Bool.not_false, if_true, Bool.false_and]
  | true =>
    rw [hv] at q
    simp only [Bool.and_eq_true, decide_eq_true_eq] at hv
    obtain ⟨n, m, e1, e2, n1, n2, m1, m2, hl, _⟩ := vm_shape hv.1
    have hnm : m = n := by have := hv.2; omega
    subst hnm
    subst e1
    subst e2
    have oS := orderS xs
    have loop := whileM_scan (T := fun s => (spec_l03Is_l0_T m m M s).run) (n := m) (p := fun i => feq .f32 (nth M (i * m + i)) 0) (a := Sum.inl ()) (b := Sum.inr ()) (fun i hi => by
      simp only [spec_l03Is_l0_T, Tree.run, lt_nat, hi, decide_true, if_true, atS hi hi n2 n2 hl, Option.bind_some, w1 (show i ≤ 1000 by omega)]) (by
      simp [spec_l03Is_l0_T, Tree.run])
    have da : ((diagL m M).any fun y => feq .f32 y 0) = (List.range m).any fun i => feq .f32 (nth M (i * m + i)) 0 := by
      unfold diagL
      rw [List.any_map]; rfl
    have loop' : spec_l03Is_l0_g m m M (0 : Int) = some (if ((List.range m).any fun i => feq .f32 (nth M (i * m + i)) 0) = true then Sum.inl () else Sum.inr ()) := loop
    rw [← da] at loop'
    simp only [Int.toNat_natCast, ordB, Bool.true_and]
    cases ho : (decide (1 ≤ (xs.length : Int)) && decide ((xs.length : Int) ≤ 12) && PM.permB xs) with
    | false =>
      rw [ho] at oS
      simp only [spec_l03Is_g, spec_l03Is_T, Tree.run, q, oS, Option.bind_some, Bool.not_true, Bool.not_false, Bool.false_eq_true, if_false, if_true, Bool.false_and, Bool.and_false]
    | true =>
      rw [ho] at oS
      by_cases hx : (xs.length : Int) = m
      case neg => simp only [spec_l03Is_g, spec_l03Is_T, Tree.run, q, oS, decide_eq_false hx, Option.bind_some, Bool.not_true, Bool.not_false, Bool.false_eq_true, if_false, if_true, Bool.and_false, Bool.true_and]
      simp only [spec_l03Is_g, spec_l03Is_T, Tree.run, q, oS, decide_eq_true hx, loop', Option.bind_some, Bool.not_true, Bool.not_false, Bool.false_eq_true, if_false, if_true, Bool.and_true, Bool.true_and]
      cases ((diagL m M).any fun y => feq .f32 y 0) <;> simp [Tree.run]
theorem fac_shape {r c : Int} {M : List Nat} {xs : List Int} (h : facB r c M xs = true) : ∃ n : Nat, r = (n : Int) ∧ c = (n : Int) ∧ 1 ≤ n ∧ n ≤ 12 ∧ M.length = n * n ∧ M.all sfin = true ∧ OrdOk xs ∧ xs.length = n ∧ ((diagL n M).any fun y => feq .f32 y 0) = false := by
  unfold facB at h
  simp only [Bool.and_eq_true, decide_eq_true_eq] at h
  obtain ⟨⟨h1, h2⟩, h3, h4, h5⟩ := h
  obtain ⟨n, m, e1, e2, n1, n2, m1, m2, hl, hf⟩ := vm_shape h1
  have hnm : m = n := by omega
  subst hnm
  subst e1
  exact ⟨m, rfl, e2, n1, n2, hl, hf, (ord_shape h4).2.2, by omega, by simpa using h3⟩
end Go.Proofs.Ytjadfgeemfdbmaa.AM
