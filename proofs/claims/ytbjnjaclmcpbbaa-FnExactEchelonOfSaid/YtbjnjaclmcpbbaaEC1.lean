/- Echelons: a column is cleared. -/
import Derived.Test.YtbjnjaclmcpbbaaEC0
set_option linter.unusedSimpArgs false
set_option linter.unusedVariables false
set_option maxHeartbeats 2000000
namespace Go.Proofs.Ytbjnjaclmcpbbaa.AM

section
variable {n m c r : Nat}
theorem takeBI {H U : List Int} {i j : Nat} {q : Int} (h1 : 1 ≤ n) (h2 : 1 ≤ m) (hi : i < n) (hj : j < n) (hn : n ≤ 6) (hm : m ≤ 6) (hH : H.length = n * m) (hU : U.length = n * n) :
    impl_echelon_take_g n m H n n U (i : Int) (j : Int) q = some (bndB 1000000 (takeL n m H i j q) && bndB 1000000 (takeL n n U i j q), takeL n m H i j q, takeL n n U i j q) := by
  have l1 := le36 hn hm
  have l2 := le36 hn hn
  have v1 := vwI n m (takeL n m H i j q) (by simp [maxN]; omega)
  have v2 := vwI n n (takeL n n U i j q) (by simp [maxN]; omega)
  rw [wh_nat h1 hn h2 hm (takeL_length _ _ _ _ _ _)] at v1
  rw [wh_nat h1 hn h1 hn (takeL_length _ _ _ _ _ _)] at v2
  have d1 : decide ((takeL n m H i j q).length = H.length) = true := decide_eq_true (by rw [takeL_length, hH])
  have d2 : decide ((takeL n n U i j q).length = U.length) = true := decide_eq_true (by rw [takeL_length, hU])
  simp only [impl_echelon_take_g, impl_echelon_take_T, Tree.run, takeI hi hj hn hm hH, takeI hi hj hn hn hU, d1, d2, v1, v2, Option.bind_some, if_true]
  cases bndB 1000000 (takeL n m H i j q) <;> simp
theorem takeBS {H U : List Int} {i j : Nat} {q : Int} (hi : i < n) (hj : j < n) (hn : n ≤ 6) (hm : m ≤ 6) (hH : H.length = n * m) (hU : U.length = n * n) :
    spec_l06Both_g n m H n n U (i : Int) (j : Int) q = some (bndB 1000000 (takeL n m H i j q) && bndB 1000000 (takeL n n U i j q), (n : Int), (m : Int), takeL n m H i j q, (n : Int), (n : Int), takeL n n U i j q) := by
  have l1 := le36 hn hm
  have l2 := le36 hn hn
  have v1 := boundS (takeL n m H i j q) 1000000 (by simp [maxN]; omega) (by omega) (by omega)
  have v2 := boundS (takeL n n U i j q) 1000000 (by simp [maxN]; omega) (by omega) (by omega)
  have d1 : decide ((takeL n m H i j q).length = H.length) = true := decide_eq_true (by rw [takeL_length, hH])
  have d2 : decide ((takeL n n U i j q).length = U.length) = true := decide_eq_true (by rw [takeL_length, hU])
  simp only [spec_l06Both_g, spec_l06Both_T, Tree.run, takeS hi hj hn hm hH, takeS hi hj hn hn hU, d1, d2, v1, v2, Option.bind_some, if_true]
  cases bndB 1000000 (takeL n m H i j q) <;> simp
/-- Rows i, i + 1, .. are made less by the row r. -/
def redF (n m c r : Nat) : Nat → Nat → List Int → List Int → Bool × List Int × List Int
  | 0, _, H, U => (true, H, U)
  | d + 1, i, H, U =>
    let H1 := takeL n m H i r (fdW (nth H (i * m + c)) (nth H (r * m + c)))
    let U1 := takeL n n U i r (fdW (nth H (i * m + c)) (nth H (r * m + c)))
    if (bndB 1000000 H1 && bndB 1000000 U1) = true then redF n m c r d (i + 1) H1 U1 else (false, H1, U1)
theorem redF_ok (hc : c < m) (hr : r < n) : ∀ (d i : Nat) (H U H' U' : List Int), i + d ≤ n → (r < i ∨ i + d ≤ r) → H.length = n * m → U.length = n * n → bndB 1000000 H = true → bndB 1000000 U = true → nth H (r * m + c) ≠ 0 →
    redF n m c r d i H U = (true, H', U') → H'.length = n * m ∧ U'.length = n * n ∧ bndB 1000000 H' = true ∧ bndB 1000000 U' = true ∧ nth H' (r * m + c) = nth H (r * m + c) ∧
      (∀ a, i ≤ a → a < i + d → colA H' m c a < colA H m c r) ∧ ∀ a, a < n → ¬ (i ≤ a ∧ a < i + d) → colA H' m c a = colA H m c a := by
  intro d
  induction d with
  | zero =>
    intro i H U H' U' hi hri hH hU bH bU hp h
    simp only [redF, Prod.mk.injEq, true_and] at h
    obtain ⟨rfl, rfl⟩ := h
    exact ⟨hH, hU, bH, bU, rfl, fun a h1 h2 => by omega, fun a _ _ => rfl⟩
  | succ d ih =>
    intro i H U H' U' hi hri hH hU bH bU hp h
    simp only [redF] at h
    split at h
    case isFalse => simp at h
    rename_i hb
    simp only [Bool.and_eq_true] at hb
    have hin : i < n := by omega
    have hne : r ≠ i := by omega
    have er : nth (takeL n m H i r (fdW (nth H (i * m + c)) (nth H (r * m + c)))) (r * m + c) = nth H (r * m + c) := by rw [takeL_nth hr hc, if_neg hne]
    obtain ⟨k1, k2, k3, k4, k5, k6, k7⟩ := ih (i + 1) _ _ H' U' (by omega) (by omega) (takeL_length _ _ _ _ _ _) (takeL_length _ _ _ _ _ _) hb.1 hb.2 (by rw [er]; exact hp) h
    have b1 := bnd_iff.1 bH (i * m + c) (by rw [hH]; exact rc_lt hin hc)
    have b2 := bnd_iff.1 bH (r * m + c) (by rw [hH]; exact rc_lt hr hc)
    have hrem := fdW_rem b1 b2 hp
    have ec : ∀ a, a < n → a ≠ i → colA (takeL n m H i r (fdW (nth H (i * m + c)) (nth H (r * m + c)))) m c a = colA H m c a := fun a ha hne => by
      unfold colA; rw [takeL_nth ha hc, if_neg hne]
    refine ⟨k1, k2, k3, k4, by rw [k5, er], fun a ha1 ha2 => ?_, fun a ha hno => ?_⟩
    · by_cases e : a = i
      · subst e
        rw [k7 a hin (by omega)]
        unfold colA
        rw [takeL_nth hin hc, if_pos rfl]
        exact hrem
      · have := k6 a (by omega) (by omega)
        rw [ec r hr hne] at this
        exact this
    · rw [k7 a ha (by omega), ec a ha (by omega)]
/-- .. by the program and by the reference, where the rows lie below. -/
theorem redI (h1 : 1 ≤ n) (h2 : 1 ≤ m) (hn : n ≤ 6) (hm : m ≤ 6) (hc : c < m) (hr : r < n) : ∀ (d i : Nat) (H U : List Int), i + d = n → r < i → H.length = n * m → U.length = n * n → nth H (r * m + c) ≠ 0 →
    impl_echelon_clearColumn_l2_g n m n n (r : Int) (c : Int) ((i : Int), H, U) = some (if (redF n m c r d i H U).1 = true then .inr (redF n m c r d i H U).2 else .inl (redF n m c r d i H U).2) ∧
    spec_l06Clear_l2_g (r : Int) (c : Int) ((i : Int), (n : Int), (m : Int), H, (n : Int), (n : Int), U) = some (if (redF n m c r d i H U).1 = true then .inr ((n : Int), (m : Int), (redF n m c r d i H U).2.1, (n : Int), (n : Int), (redF n m c r d i H U).2.2) else .inl ((n : Int), (m : Int), (redF n m c r d i H U).2.1, (n : Int), (n : Int), (redF n m c r d i H U).2.2)) := by
  intro d
  induction d with
  | zero =>
    intro i H U hi hri hH hU hp
    have k0 : ¬ i < n := by omega
    refine ⟨wi_inr (T := fun s => (impl_echelon_clearColumn_l2_T n m n n (r : Int) (c : Int) s).run) ?_, wi_inr (T := fun s => (spec_l06Clear_l2_T (r : Int) (c : Int) s).run) ?_⟩
    · simp only [impl_echelon_clearColumn_l2_T, Tree.run, lt_nat, k0, decide_false, Bool.false_eq_true, if_false, redF, if_true]
    · simp only [spec_l06Clear_l2_T, Tree.run, lt_nat, k0, decide_false, Bool.false_eq_true, if_false, redF, if_true]
  | succ d ih =>
    intro i H U hi hri hH hU hp
    have k0 : i < n := by omega
    obtain ⟨q, hq⟩ : ∃ q, q = fdW (nth H (i * m + c)) (nth H (r * m + c)) := ⟨_, rfl⟩
    have er : nth (takeL n m H i r q) (r * m + c) = nth H (r * m + c) := by rw [takeL_nth hr hc, if_neg (by omega)]
    have d1 : decide ((takeL n m H i r q).length = H.length) = true := decide_eq_true (by rw [takeL_length, hH])
    have d2 : decide ((takeL n n U i r q).length = U.length) = true := decide_eq_true (by rw [takeL_length, hU])
    obtain ⟨g1, g2⟩ := ih (i + 1) (takeL n m H i r q) (takeL n n U i r q) (by omega) (by omega) (takeL_length _ _ _ _ _ _) (takeL_length _ _ _ _ _ _) (by rw [er]; exact hp)
    have tI := takeBI (q := q) h1 h2 k0 hr hn hm hH hU
    have tS := takeBS (q := q) k0 hr hn hm hH hU
    have fI := floorI (a := nth H (i * m + c)) hp
    have fS := floorS (a := nth H (i * m + c)) hp
    rw [← hq] at fI fS
    have eF : redF n m c r (d + 1) i H U = if (bndB 1000000 (takeL n m H i r q) && bndB 1000000 (takeL n n U i r q)) = true then redF n m c r d (i + 1) (takeL n m H i r q) (takeL n n U i r q) else (false, takeL n m H i r q, takeL n n U i r q) := by
      simp only [redF, ← hq]
    rw [eF]
    cases hb : (bndB 1000000 (takeL n m H i r q) && bndB 1000000 (takeL n n U i r q)) with
    | true =>
      rw [hb] at tI tS
      simp only [if_true]
      refine ⟨wi_inl (T := fun s => (impl_echelon_clearColumn_l2_T n m n n (r : Int) (c : Int) s).run) ?_ g1, wi_inl (T := fun s => (spec_l06Clear_l2_T (r : Int) (c : Int) s).run) ?_ g2⟩
      · simp only [impl_echelon_clearColumn_l2_T, Tree.run, lt_nat, k0, decide_true, if_true, atWI k0 hc hn hm hH, atWI hr hc hn hm hH, fI, tI, d1, d2, Option.bind_some, Bool.not_true, Bool.false_eq_true, if_false, w1 (show i ≤ 1000 by omega)]
      · simp only [spec_l06Clear_l2_T, Tree.run, lt_nat, k0, decide_true, if_true, atWS k0 hc hn hm hH, atWS hr hc hn hm hH, fS, tS, d1, d2, Option.bind_some, Bool.not_true, Bool.false_eq_true, if_false, w1 (show i ≤ 1000 by omega)]
    | false =>
      rw [hb] at tI tS
      simp only [Bool.false_eq_true, if_false]
      refine ⟨wi_inr (T := fun s => (impl_echelon_clearColumn_l2_T n m n n (r : Int) (c : Int) s).run) ?_, wi_inr (T := fun s => (spec_l06Clear_l2_T (r : Int) (c : Int) s).run) ?_⟩
      · simp only [impl_echelon_clearColumn_l2_T, Tree.run, lt_nat, k0, decide_true, if_true, atWI k0 hc hn hm hH, atWI hr hc hn hm hH, fI, tI, d1, d2, Option.bind_some, Bool.not_false]
      · simp only [spec_l06Clear_l2_T, Tree.run, lt_nat, k0, decide_true, if_true, atWS k0 hc hn hm hH, atWS hr hc hn hm hH, fS, tS, d1, d2, Option.bind_some, Bool.not_false]
/-- .. where the rows lie above. -/
theorem redU {x0 x1 : Int} {xs : List Int} (h1 : 1 ≤ n) (h2 : 1 ≤ m) (hn : n ≤ 6) (hm : m ≤ 6) (hc : c < m) (hr : r < n) : ∀ (d i : Nat) (H U : List Int), i + d = r → H.length = n * m → U.length = n * n → nth H (r * m + c) ≠ 0 →
    impl_EchelonOf_l2_1_g n m (r : Int) (c : Int) n n ((i : Int), H, U) = some (if (redF n m c r d i H U).1 = true then .inr (redF n m c r d i H U).2 else .inl ()) ∧
    spec_EchelonOf_l2_g (r : Int) (c : Int) ((i : Int), (n : Int), (m : Int), (n : Int), (n : Int), H, U) = some (if (redF n m c r d i H U).1 = true then .inr ((n : Int), (m : Int), (n : Int), (n : Int), (redF n m c r d i H U).2.1, (redF n m c r d i H U).2.2) else .inl ()) := by
  intro d
  induction d with
  | zero =>
    intro i H U hi hH hU hp
    have k0 : ¬ i < r := by omega
    refine ⟨wi_inr (T := fun s => (impl_EchelonOf_l2_1_T n m (r : Int) (c : Int) n n s).run) ?_, wi_inr (T := fun s => (spec_EchelonOf_l2_T (r : Int) (c : Int) s).run) ?_⟩
    · simp only [impl_EchelonOf_l2_1_T, Tree.run, lt_nat, k0, decide_false, Bool.false_eq_true, if_false, redF, if_true]
    · simp only [spec_EchelonOf_l2_T, Tree.run, lt_nat, k0, decide_false, Bool.false_eq_true, if_false, redF, if_true]
  | succ d ih =>
    intro i H U hi hH hU hp
    have k1 : i < r := by omega
    have k0 : i < n := by omega
    obtain ⟨q, hq⟩ : ∃ q, q = fdW (nth H (i * m + c)) (nth H (r * m + c)) := ⟨_, rfl⟩
    have er : nth (takeL n m H i r q) (r * m + c) = nth H (r * m + c) := by rw [takeL_nth hr hc, if_neg (by omega)]
    have d1 : decide ((takeL n m H i r q).length = H.length) = true := decide_eq_true (by rw [takeL_length, hH])
    have d2 : decide ((takeL n n U i r q).length = U.length) = true := decide_eq_true (by rw [takeL_length, hU])
    obtain ⟨g1, g2⟩ := ih (i + 1) (takeL n m H i r q) (takeL n n U i r q) (by omega) (takeL_length _ _ _ _ _ _) (takeL_length _ _ _ _ _ _) (by rw [er]; exact hp)
    have tI := takeBI (q := q) h1 h2 k0 hr hn hm hH hU
    have tS := takeBS (q := q) k0 hr hn hm hH hU
    have fI := floorI (a := nth H (i * m + c)) hp
    have fS := floorS (a := nth H (i * m + c)) hp
    rw [← hq] at fI fS
    have eF : redF n m c r (d + 1) i H U = if (bndB 1000000 (takeL n m H i r q) && bndB 1000000 (takeL n n U i r q)) = true then redF n m c r d (i + 1) (takeL n m H i r q) (takeL n n U i r q) else (false, takeL n m H i r q, takeL n n U i r q) := by
      simp only [redF, ← hq]
    rw [eF]
    cases hb : (bndB 1000000 (takeL n m H i r q) && bndB 1000000 (takeL n n U i r q)) with
    | true =>
      rw [hb] at tI tS
      simp only [if_true]
      refine ⟨wi_inl (T := fun s => (impl_EchelonOf_l2_1_T n m (r : Int) (c : Int) n n s).run) ?_ g1, wi_inl (T := fun s => (spec_EchelonOf_l2_T (r : Int) (c : Int) s).run) ?_ g2⟩
      · simp only [impl_EchelonOf_l2_1_T, Tree.run, lt_nat, k1, decide_true, if_true, atWI k0 hc hn hm hH, atWI hr hc hn hm hH, fI, tI, d1, d2, Option.bind_some, Bool.not_true, Bool.false_eq_true, if_false, w1 (show i ≤ 1000 by omega)]
      · simp only [spec_EchelonOf_l2_T, Tree.run, lt_nat, k1, decide_true, if_true, atWS k0 hc hn hm hH, atWS hr hc hn hm hH, fS, tS, d1, d2, Option.bind_some, Bool.not_true, Bool.false_eq_true, if_false, w1 (show i ≤ 1000 by omega)]
    | false =>
      rw [hb] at tI tS
      simp only [Bool.false_eq_true, if_false]
      refine ⟨wi_inr (T := fun s => (impl_EchelonOf_l2_1_T n m (r : Int) (c : Int) n n s).run) ?_, wi_inr (T := fun s => (spec_EchelonOf_l2_T (r : Int) (c : Int) s).run) ?_⟩
      · simp only [impl_EchelonOf_l2_1_T, Tree.run, lt_nat, k1, decide_true, if_true, atWI k0 hc hn hm hH, atWI hr hc hn hm hH, fI, tI, d1, d2, Option.bind_some, Bool.not_false]
      · simp only [spec_EchelonOf_l2_T, Tree.run, lt_nat, k1, decide_true, if_true, atWS k0 hc hn hm hH, atWS hr hc hn hm hH, fS, tS, d1, d2, Option.bind_some, Bool.not_false]
theorem bnd_swap {k : Nat} {H : List Int} {i j : Nat} (hi : i < n) (hj : j < n) (hH : H.length = n * k) (h : bndB 1000000 H = true) : bndB 1000000 (swapL n k H i j) = true := by
  rw [bnd_iff] at h ⊢
  intro p hp
  rw [swapL_length] at hp
  obtain ⟨q1, q2, q3⟩ := rc_of hp
  rw [← q3, swapL_nth q1 q2]
  exact h _ (by rw [hH]; exact rc_lt (sw_lt hi hj q1) q2)
theorem fL_one {H : List Int} {x a : Nat} (hf : fL H m c r (n - r) = [x]) (hr : r < n) (ha : r ≤ a ∧ a < n) : nth H (a * m + c) ≠ 0 ↔ a = x := by
  have := fL_mem (H := H) (m := m) (c := c) (i := r) (d := n - r) (a := a)
  rw [hf] at this
  simp only [List.mem_singleton] at this
  constructor
  · intro h; exact this.2 ⟨⟨ha.1, by omega⟩, h⟩
  · intro h; exact (this.1 h).2
/-- How much is left to clear. -/
def meas (n m c r : Nat) (H : List Int) : Nat := match fL H m c r (n - r) with | x :: y :: t => colA H m c (minF (colA H m c) x (y :: t)) | _ => 0
theorem clearB {a0 a1 a2 a3 : Int} {WH WU : List Int} (h1 : 1 ≤ n) (h2 : 1 ≤ m) (hn : n ≤ 6) (hm : m ≤ 6) (hc : c < m) (hr : r < n) : ∀ (k : Nat) (H U : List Int), meas n m c r H ≤ k → H.length = n * m → U.length = n * n → bndB 1000000 H = true → bndB 1000000 U = true →
    ((∃ o p, impl_echelon_clearColumn_l0_g n m WH n n WU (r : Int) (c : Int) (H, U) = some (.inr o) ∧ spec_l06Clear_l0_g a0 a1 WH a2 a3 WU (r : Int) (c : Int) ((n : Int), (m : Int), H, (n : Int), (n : Int), U) = some (.inr p) ∧ o.1.length = n * m ∧ o.2.length = n * n ∧ p.2.2.1.length = n * m ∧ p.2.2.2.2.2.length = n * n) ∨
    ∃ H1 U1 H2 U2, impl_echelon_clearColumn_l0_g n m WH n n WU (r : Int) (c : Int) (H, U) = some (.inl (H1, U1)) ∧ spec_l06Clear_l0_g a0 a1 WH a2 a3 WU (r : Int) (c : Int) ((n : Int), (m : Int), H, (n : Int), (n : Int), U) = some (.inl ((n : Int), (m : Int), H2, (n : Int), (n : Int), U2)) ∧
      H1.length = n * m ∧ U1.length = n * n ∧ bndB 1000000 H1 = true ∧ bndB 1000000 U1 = true ∧
      ((fL H1 m c r (n - r) = [] ∧ H2 = H1 ∧ U2 = U1) ∨ ∃ x, x < n ∧ fL H1 m c r (n - r) = [x] ∧ H2 = swapL n m H1 x r ∧ U2 = swapL n n U1 x r)) := by
  intro k
  induction k using Nat.strongRecOn with
  | _ k ih =>
  intro H U hk hH hU bH bU
  have fI := filledG hn hm hc (show r ≤ n by omega) hH
  have lS := leastG hn hm hc (show r ≤ n by omega) hH bH
  have fl := fL_len H m c r (n - r)
  have fm : ∀ a ∈ fL H m c r (n - r), (r ≤ a ∧ a < n) ∧ nth H (a * m + c) ≠ 0 := fun a ha => by
    have := fL_mem.1 ha
    exact ⟨⟨this.1.1, by omega⟩, this.2⟩
  have fnd := fL_nodup H m c r (n - r)
  have hms : meas n m c r H = match fL H m c r (n - r) with | x :: y :: t => colA H m c (minF (colA H m c) x (y :: t)) | _ => 0 := rfl
  cases hf : fL H m c r (n - r) with
  | nil =>
    rw [hf] at fI lS
    simp only at lS
    refine .inr ⟨H, U, H, U, wi_inr (T := fun s => (impl_echelon_clearColumn_l0_T n m WH n n WU (r : Int) (c : Int) s).run) ?_, wi_inr (T := fun s => (spec_l06Clear_l0_T a0 a1 WH a2 a3 WU (r : Int) (c : Int) s).run) ?_, hH, hU, bH, bU, .inl ⟨hf, rfl, rfl⟩⟩
    · simp [impl_echelon_clearColumn_l0_T, Tree.run, fI]
    · have c1 : decide ((0 : Int) ≤ -1) = false := by decide
      have c2 : decide ((0 : Int) ≤ 1) = true := by decide
      simp only [spec_l06Clear_l0_T, Tree.run, lS, Option.bind_some, c1, c2, Bool.false_eq_true, if_false, if_true]
  | cons x t =>
  have hx := fm x (by rw [hf]; simp)
  cases ht : t with
  | nil =>
    subst ht
    rw [hf] at fI lS
    simp only at lS
    have em : minF (colA H m c) x [] = x := rfl
    refine .inr ⟨H, U, swapL n m H x r, swapL n n U x r, wi_inr (T := fun s => (impl_echelon_clearColumn_l0_T n m WH n n WU (r : Int) (c : Int) s).run) ?_, wi_inr (T := fun s => (spec_l06Clear_l0_T a0 a1 WH a2 a3 WU (r : Int) (c : Int) s).run) ?_, hH, hU, bH, bU, .inr ⟨x, hx.1.2, hf, rfl, rfl⟩⟩
    · simp [impl_echelon_clearColumn_l0_T, Tree.run, fI]
    · have c1 : decide ((0 : Int) ≤ (x : Int)) = true := decide_eq_true (by omega)
      have c2 : decide ((((([] : List Nat).length + 1 : Nat)) : Int) ≤ 1) = true := by decide
      have d1 : decide ((swapL n m H x r).length = H.length) = true := decide_eq_true (by rw [swapL_length, hH])
      have d2 : decide ((swapL n n U x r).length = U.length) = true := decide_eq_true (by rw [swapL_length, hU])
      simp only [spec_l06Clear_l0_T, Tree.run, lS, em, swapS hx.1.2 hr hn hm hH, swapS hx.1.2 hr hn hn hU, Option.bind_some, c1, c2, d1, d2, if_true]
  | cons y t =>
  subst ht
  rw [hf] at fI lS fl fnd hms
  simp only at lS
  simp only at hms
  simp only [List.length_cons] at fl
  have mI := minI (U := U) (r1 := n) (r2 := n) hn hm hc hH bH x (y :: t) (by simp; omega) (fun a ha => (fm a (by rw [hf]; exact ha)).1.2)
  have hpm := minF_mem (colA H m c) (y :: t) x
  have hpl := minF_le (colA H m c) (y :: t) x
  obtain ⟨p, hp⟩ : ∃ p, p = minF (colA H m c) x (y :: t) := ⟨_, rfl⟩
  rw [← hp] at mI lS hpm hpl hms
  obtain ⟨⟨p1, p2⟩, p3⟩ := fm p (by rw [hf]; exact hpm)
  -- the state behind the exchange
  have bH' := bnd_swap hr p2 hH bH
  have bU' := bnd_swap hr p2 hU bU
  have ep : nth (swapL n m H r p) (r * m + c) = nth H (p * m + c) := by rw [swapL_nth hr hc]; simp [sw]
  have hpz : nth (swapL n m H r p) (r * m + c) ≠ 0 := by rw [ep]; exact p3
  obtain ⟨rI, rS⟩ := redI (c := c) (r := r) h1 h2 hn hm hc hr (n - (r + 1)) (r + 1) (swapL n m H r p) (swapL n n U r p) (by omega) (by omega) (swapL_length _ _ _ _ _) (swapL_length _ _ _ _ _) hpz
  have d1 : decide ((swapL n m H r p).length = H.length) = true := decide_eq_true (by rw [swapL_length, hH])
  have d2 : decide ((swapL n n U r p).length = U.length) = true := decide_eq_true (by rw [swapL_length, hU])
  have c1 : decide ((((x :: y :: t).map fun (a : Nat) => (a : Int)).length : Int) < 2) = false := decide_eq_false (by simp only [List.length_map, List.length_cons]; omega)
  have c2 : decide ((0 : Int) ≤ (p : Int)) = true := decide_eq_true (by omega)
  have c3 : decide ((((y :: t).length + 1 : Nat) : Int) ≤ 1) = false := decide_eq_false (by simp only [List.length_cons]; omega)
  have w2 := w1 (show r ≤ 1000 by omega)
  have es : impl_echelon_swap_g n m H n n U (r : Int) (p : Int) = some (swapL n m H r p, swapL n n U r p) := by
    simp only [impl_echelon_swap_g, impl_echelon_swap_T, Tree.run, swapI hr p2 hn hm hH, swapI hr p2 hn hn hU, d1, d2, Option.bind_some, if_true]
  have s1 := swapS p2 hr hn hm hH
  have s2 := swapS p2 hr hn hn hU
  rw [swapL_comm n m H p r] at s1
  rw [swapL_comm n n U p r] at s2
  cases hb : (redF n m c r (n - (r + 1)) (r + 1) (swapL n m H r p) (swapL n n U r p)).1 with
  | false =>
    rw [hb] at rI rS
    simp only [Bool.false_eq_true, if_false] at rI rS
    have len : ∀ (d i : Nat) (H U : List Int), H.length = n * m → U.length = n * n → (redF n m c r d i H U).2.1.length = n * m ∧ (redF n m c r d i H U).2.2.length = n * n := by
      intro d
      induction d with
      | zero => intro i H U a b; exact ⟨a, b⟩
      | succ d ihd =>
        intro i H U a b
        simp only [redF]
        split
        · exact ihd _ _ _ (takeL_length _ _ _ _ _ _) (takeL_length _ _ _ _ _ _)
        · exact ⟨takeL_length _ _ _ _ _ _, takeL_length _ _ _ _ _ _⟩
    obtain ⟨q1, q2⟩ := len (n - (r + 1)) (r + 1) (swapL n m H r p) (swapL n n U r p) (swapL_length _ _ _ _ _) (swapL_length _ _ _ _ _)
    refine .inl ⟨(redF n m c r (n - (r + 1)) (r + 1) (swapL n m H r p) (swapL n n U r p)).2, ((n : Int), (m : Int), (redF n m c r (n - (r + 1)) (r + 1) (swapL n m H r p) (swapL n n U r p)).2.1, (n : Int), (n : Int), (redF n m c r (n - (r + 1)) (r + 1) (swapL n m H r p) (swapL n n U r p)).2.2), wi_inr (T := fun s => (impl_echelon_clearColumn_l0_T n m WH n n WU (r : Int) (c : Int) s).run) ?_, wi_inr (T := fun s => (spec_l06Clear_l0_T a0 a1 WH a2 a3 WU (r : Int) (c : Int) s).run) ?_, q1, q2, q1, q2⟩
    · simp only [impl_echelon_clearColumn_l0_T, Tree.run, fI, c1, mI, es, d1, d2, w2, rI, Option.bind_some, Bool.false_eq_true, if_false, if_true]
    · simp only [spec_l06Clear_l0_T, Tree.run, lS, c2, s1, s2, d1, d2, c3, w2, rS, Option.bind_some, Bool.false_eq_true, if_false, if_true]
  | true =>
    rw [hb] at rI rS
    simp only [if_true] at rI rS
    obtain ⟨H', hH'⟩ : ∃ H', H' = (redF n m c r (n - (r + 1)) (r + 1) (swapL n m H r p) (swapL n n U r p)).2.1 := ⟨_, rfl⟩
    obtain ⟨U', hU'⟩ : ∃ U', U' = (redF n m c r (n - (r + 1)) (r + 1) (swapL n m H r p) (swapL n n U r p)).2.2 := ⟨_, rfl⟩
    have eR : redF n m c r (n - (r + 1)) (r + 1) (swapL n m H r p) (swapL n n U r p) = (true, H', U') := by rw [hH', hU', ← hb]
    rw [eR] at rI rS
    simp only at rI rS
    obtain ⟨k1, k2, k3, k4, k5, k6, _⟩ := redF_ok hc hr (n - (r + 1)) (r + 1) _ _ H' U' (by omega) (by omega) (swapL_length _ _ _ _ _) (swapL_length _ _ _ _ _) bH' bU' hpz eR
    have hm1 : meas n m c r H = colA H m c p := hms
    have hpos : 0 < colA H m c p := by unfold colA; omega
    have hlt : meas n m c r H' < meas n m c r H := by
      rw [hm1]
      unfold meas
      cases hf' : fL H' m c r (n - r) with
      | nil => exact hpos
      | cons a l =>
        cases l with
        | nil => exact hpos
        | cons b l =>
          simp only
          have nd := fL_nodup H' m c r (n - r)
          rw [hf'] at nd
          have hab : a ≠ b := by
            have := (List.nodup_cons.1 nd).1
            intro e; apply this; rw [e]; simp
          have mem : ∀ z ∈ a :: b :: l, (r ≤ z ∧ z < n) ∧ nth H' (z * m + c) ≠ 0 := fun z hz => by
            have := fL_mem.1 (by rw [hf']; exact hz : z ∈ fL H' m c r (n - r))
            exact ⟨⟨this.1.1, by omega⟩, this.2⟩
          have small : ∀ z, r < z → z < n → colA H' m c z < colA H m c p := fun z z1 z2 => by
            have e0 : colA (swapL n m H r p) m c r = colA H m c p := by unfold colA; rw [ep]
            have := k6 z (by omega) (by omega)
            rw [e0] at this; exact this
          have mle := minF_le (colA H' m c) (b :: l) a
          by_cases e : a = r
          · have hb2 := mem b (by simp)
            exact Nat.lt_of_le_of_lt (mle b (by simp)) (small b (by omega) hb2.1.2)
          · have ha2 := mem a (by simp)
            exact Nat.lt_of_le_of_lt (mle a (by simp)) (small a (by omega) ha2.1.2)
    have stI : (impl_echelon_clearColumn_l0_T n m WH n n WU (r : Int) (c : Int) (H, U)).run = some (.inl (H', U')) := by
      simp only [impl_echelon_clearColumn_l0_T, Tree.run, fI, c1, mI, es, d1, d2, w2, rI, Option.bind_some, Bool.false_eq_true, if_false, if_true]
    have stS : (spec_l06Clear_l0_T a0 a1 WH a2 a3 WU (r : Int) (c : Int) ((n : Int), (m : Int), H, (n : Int), (n : Int), U)).run = some (.inl ((n : Int), (m : Int), H', (n : Int), (n : Int), U')) := by
      simp only [spec_l06Clear_l0_T, Tree.run, lS, c2, s1, s2, d1, d2, c3, w2, rS, Option.bind_some, Bool.false_eq_true, if_false, if_true]
    rcases ih (meas n m c r H') (by omega) H' U' (Nat.le_refl _) k1 k2 k3 k4 with ⟨o, q, g1, g2, g3⟩ | ⟨H1, U1, H2, U2, g1, g2, g3⟩
    · exact .inl ⟨o, q, wi_inl (T := fun s => (impl_echelon_clearColumn_l0_T n m WH n n WU (r : Int) (c : Int) s).run) stI g1, wi_inl (T := fun s => (spec_l06Clear_l0_T a0 a1 WH a2 a3 WU (r : Int) (c : Int) s).run) stS g2, g3⟩
    · exact .inr ⟨H1, U1, H2, U2, wi_inl (T := fun s => (impl_echelon_clearColumn_l0_T n m WH n n WU (r : Int) (c : Int) s).run) stI g1, wi_inl (T := fun s => (spec_l06Clear_l0_T a0 a1 WH a2 a3 WU (r : Int) (c : Int) s).run) stS g2, g3⟩
end
end Go.Proofs.Ytbjnjaclmcpbbaa.AM
