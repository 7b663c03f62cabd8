/- Echelons: the whole. -/
import Derived.Test.YtbjnjaclmcpbbaaEC1
set_option linter.unusedSimpArgs false
set_option linter.unusedVariables false
set_option maxHeartbeats 2000000
namespace Go.Proofs.Ytbjnjaclmcpbbaa.AM

section
variable {n m c r : Nat}
theorem ccl {H U : List Int} (h1 : 1 ≤ n) (h2 : 1 ≤ m) (hn : n ≤ 6) (hm : m ≤ 6) (hc : c < m) (hr : r < n) (hH : H.length = n * m) (hU : U.length = n * n) (bH : bndB 1000000 H = true) (bU : bndB 1000000 U = true) :
    ((∃ (o : List Int × List Int) (p : Int × Int × List Int × Int × Int × List Int), impl_echelon_clearColumn_g n m H n n U (r : Int) (c : Int) = some (false, o.1, o.2) ∧ spec_l06Clear_g n m H n n U (r : Int) (c : Int) = some (false, p) ∧ o.1.length = n * m ∧ o.2.length = n * n ∧ p.2.2.1.length = n * m ∧ p.2.2.2.2.2.length = n * n) ∨
    ∃ H1 U1 H2 U2, impl_echelon_clearColumn_g n m H n n U (r : Int) (c : Int) = some (true, H1, U1) ∧ spec_l06Clear_g n m H n n U (r : Int) (c : Int) = some (true, (n : Int), (m : Int), H2, (n : Int), (n : Int), U2) ∧
      H1.length = n * m ∧ U1.length = n * n ∧ bndB 1000000 H1 = true ∧ bndB 1000000 U1 = true ∧
      ((fL H1 m c r (n - r) = [] ∧ H2 = H1 ∧ U2 = U1) ∨ ∃ x, x < n ∧ fL H1 m c r (n - r) = [x] ∧ H2 = swapL n m H1 x r ∧ U2 = swapL n n U1 x r)) := by
  rcases clearB (a0 := (n : Int)) (a1 := (m : Int)) (a2 := (n : Int)) (a3 := (n : Int)) (WH := H) (WU := U) h1 h2 hn hm hc hr _ H U (Nat.le_refl _) hH hU bH bU with ⟨o, p, g1, g2, g3⟩ | ⟨H1, U1, H2, U2, g1, g2, g3⟩
  · refine .inl ⟨o, p, ?_, ?_, g3⟩
    · simp only [impl_echelon_clearColumn_g, impl_echelon_clearColumn_T, Tree.run, g1, Option.bind_some, if_true]
    · simp only [spec_l06Clear_g, spec_l06Clear_T, Tree.run, g2, Option.bind_some, if_true]
  · refine .inr ⟨H1, U1, H2, U2, ?_, ?_, g3⟩
    · simp only [impl_echelon_clearColumn_g, impl_echelon_clearColumn_T, Tree.run, g1, Option.bind_some, if_true]
    · simp only [spec_l06Clear_g, spec_l06Clear_T, Tree.run, g2, Option.bind_some, if_true]
theorem neg_bnd {k : Nat} {H : List Int} (hr : r < n) (hH : H.length = n * k) (h : bndB 1000000 H = true) : bndB 1000000 (takeL n k H r r 2) = true := by
  rw [bnd_iff] at h ⊢
  intro p hp
  rw [takeL_length] at hp
  obtain ⟨q1, q2, q3⟩ := rc_of hp
  rw [← q3, takeL_nth q1 q2]
  split
  · have b := h (r * k + p % k) (by rw [hH]; exact rc_lt hr q2)
    rw [w64 (n := 2 * _) (by omega) (by omega), w64 (by omega) (by omega)]
    omega
  · exact h _ (by rw [hH]; exact rc_lt q1 q2)
theorem neg_at {H : List Int} (hr : r < n) (hc : c < m) (hH : H.length = n * m) (h : bndB 1000000 H = true) : nth (takeL n m H r r 2) (r * m + c) = - nth H (r * m + c) := by
  have b := bnd_iff.1 h (r * m + c) (by rw [hH]; exact rc_lt hr hc)
  rw [takeL_nth hr hc, if_pos rfl, w64 (n := 2 * _) (by omega) (by omega), w64 (by omega) (by omega)]
  omega
theorem mainB {xs : List Int} (h1 : 1 ≤ n) (h2 : 1 ≤ m) (hn : n ≤ 6) (hm : m ≤ 6) : ∀ (d c r : Nat) (H U : List Int), c + d = m → r ≤ n → H.length = n * m → U.length = n * n → bndB 1000000 H = true → bndB 1000000 U = true →
    (impl_EchelonOf_l0_1_g n m xs n n ((r : Int), (c : Int), H, U) = some (.inl ()) ∧ spec_EchelonOf_l0_g n m xs ((r : Int), (c : Int), (n : Int), (m : Int), (n : Int), (n : Int), H, U) = some (.inl ())) ∨
    ∃ H' U', impl_EchelonOf_l0_1_g n m xs n n ((r : Int), (c : Int), H, U) = some (.inr (H', U')) ∧ spec_EchelonOf_l0_g n m xs ((r : Int), (c : Int), (n : Int), (m : Int), (n : Int), (n : Int), H, U) = some (.inr ((n : Int), (m : Int), (n : Int), (n : Int), H', U')) ∧ H'.length = n * m ∧ U'.length = n * n := by
  intro d
  induction d with
  | zero =>
    intro c r H U hd hr hH hU bH bU
    have k0 : ¬ c < m := by omega
    refine .inr ⟨H, U, wi_inr (T := fun s => (impl_EchelonOf_l0_1_T n m xs n n s).run) ?_, wi_inr (T := fun s => (spec_EchelonOf_l0_T n m xs s).run) ?_, hH, hU⟩
    · simp only [impl_EchelonOf_l0_1_T, Tree.run, lt_nat, k0, decide_false, Bool.false_eq_true, if_false]
    · simp only [spec_EchelonOf_l0_T, Tree.run, lt_nat, k0, decide_false, Bool.false_eq_true, if_false]
  | succ d ih =>
    intro c r H U hd hr hH hU bH bU
    have k0 : c < m := by omega
    by_cases k1 : r < n
    case neg =>
      refine .inr ⟨H, U, wi_inr (T := fun s => (impl_EchelonOf_l0_1_T n m xs n n s).run) ?_, wi_inr (T := fun s => (spec_EchelonOf_l0_T n m xs s).run) ?_, hH, hU⟩
      · simp only [impl_EchelonOf_l0_1_T, Tree.run, lt_nat, k0, k1, decide_true, decide_false, Bool.false_eq_true, if_false, if_true]
      · simp only [spec_EchelonOf_l0_T, Tree.run, lt_nat, k0, k1, decide_true, decide_false, Bool.false_eq_true, if_false, if_true]
    have wc := w1 (show c ≤ 1000 by omega)
    have wr := w1 (show r ≤ 1000 by omega)
    rcases ccl h1 h2 hn hm k0 k1 hH hU bH bU with ⟨o, p, g1, g2, e1, e2, e3, e4⟩ | ⟨H1, U1, H2, U2, g1, g2, e1, e2, b1, b2, hx⟩
    · have t1 : decide (o.1.length = H.length) = true := decide_eq_true (by rw [e1, hH])
      have t2 : decide (o.2.length = U.length) = true := decide_eq_true (by rw [e2, hU])
      have t3 : decide (p.2.2.1.length = H.length) = true := decide_eq_true (by rw [e3, hH])
      have t4 : decide (p.2.2.2.2.2.length = U.length) = true := decide_eq_true (by rw [e4, hU])
      refine .inl ⟨wi_inr (T := fun s => (impl_EchelonOf_l0_1_T n m xs n n s).run) ?_, wi_inr (T := fun s => (spec_EchelonOf_l0_T n m xs s).run) ?_⟩
      · simp only [impl_EchelonOf_l0_1_T, Tree.run, lt_nat, k0, k1, decide_true, if_true, g1, t1, t2, Option.bind_some, Bool.not_false]
      · simp only [spec_EchelonOf_l0_T, Tree.run, lt_nat, k0, k1, decide_true, if_true, g2, t3, t4, Option.bind_some, Bool.not_false]
    have t1 : decide (H1.length = H.length) = true := decide_eq_true (by rw [e1, hH])
    have t2 : decide (U1.length = U.length) = true := decide_eq_true (by rw [e2, hU])
    have fI := filledG hn hm k0 (show r ≤ n by omega) e1
    rcases hx with ⟨f, rfl, rfl⟩ | ⟨x, hxn, f, rfl, rfl⟩
    · rw [f] at fI
      have z : nth H2 (r * m + c) = 0 := by
        by_cases z : nth H2 (r * m + c) = 0
        · exact z
        · have := fL_mem (H := H2) (m := m) (c := c) (i := r) (d := n - r) (a := r)
          rw [f] at this
          exact absurd (this.2 ⟨⟨Nat.le_refl _, by omega⟩, z⟩) (by simp)
      have aS := atWS k1 k0 hn hm e1
      rw [z] at aS
      have zz : decide ((0 : Int) = 0) = true := by decide
      have zl : decide ((((([] : List Nat).map fun (a : Nat) => (a : Int)).length : Nat) : Int) = 0) = true := by decide
      have sI : (impl_EchelonOf_l0_1_T n m xs n n ((r : Int), (c : Int), H, U)).run = some (.inl ((r : Int), ((c + 1 : Nat) : Int), H2, U2)) := by
        simp only [impl_EchelonOf_l0_1_T, Tree.run, lt_nat, k0, k1, decide_true, if_true, g1, t1, t2, fI, zl, wc, Option.bind_some, Bool.not_true, Bool.false_eq_true, if_false]
      have sS : (spec_EchelonOf_l0_T n m xs ((r : Int), (c : Int), (n : Int), (m : Int), (n : Int), (n : Int), H, U)).run = some (.inl ((r : Int), ((c + 1 : Nat) : Int), (n : Int), (m : Int), (n : Int), (n : Int), H2, U2)) := by
        simp only [spec_EchelonOf_l0_T, Tree.run, lt_nat, k0, k1, decide_true, if_true, g2, t1, t2, aS, zz, wc, Option.bind_some, Bool.not_true, Bool.false_eq_true, if_false]
      rcases ih (c + 1) r H2 U2 (by omega) hr e1 e2 b1 b2 with ⟨q1, q2⟩ | ⟨H', U', q1, q2, q3⟩
      · exact .inl ⟨wi_inl (T := fun s => (impl_EchelonOf_l0_1_T n m xs n n s).run) sI q1, wi_inl (T := fun s => (spec_EchelonOf_l0_T n m xs s).run) sS q2⟩
      · exact .inr ⟨H', U', wi_inl (T := fun s => (impl_EchelonOf_l0_1_T n m xs n n s).run) sI q1, wi_inl (T := fun s => (spec_EchelonOf_l0_T n m xs s).run) sS q2, q3⟩
    -- one row with a number: it comes up
    rw [f] at fI
    obtain ⟨S, hS⟩ : ∃ S, S = swapL n m H1 x r := ⟨_, rfl⟩
    obtain ⟨V, hV⟩ : ∃ V, V = swapL n n U1 x r := ⟨_, rfl⟩
    have lS : S.length = n * m := by rw [hS, swapL_length]
    have lV : V.length = n * n := by rw [hV, swapL_length]
    have bS : bndB 1000000 S = true := by rw [hS]; exact bnd_swap hxn k1 e1 b1
    have bV : bndB 1000000 V = true := by rw [hV]; exact bnd_swap hxn k1 e2 b2
    have d1 : decide (S.length = H1.length) = true := decide_eq_true (by rw [lS, e1])
    have d2 : decide (V.length = U1.length) = true := decide_eq_true (by rw [lV, e2])
    have es : impl_echelon_swap_g n m H1 n n U1 (r : Int) (x : Int) = some (S, V) := by
      have c1 : decide ((swapL n m H1 r x).length = H1.length) = true := decide_eq_true (by rw [swapL_length, e1])
      have c2 : decide ((swapL n n U1 r x).length = U1.length) = true := decide_eq_true (by rw [swapL_length, e2])
      rw [hS, hV, swapL_comm n m H1 x r, swapL_comm n n U1 x r]
      simp only [impl_echelon_swap_g, impl_echelon_swap_T, Tree.run, swapI k1 hxn hn hm e1, swapI k1 hxn hn hn e2, c1, c2, Option.bind_some, if_true]
    rw [← hS, ← hV] at g2
    have z : nth S (r * m + c) ≠ 0 := by
      have ex := fL_mem (H := H1) (m := m) (c := c) (i := r) (d := n - r) (a := x)
      rw [f] at ex
      have := (ex.1 (by simp)).2
      rw [hS, swapL_nth k1 k0]
      unfold sw
      split
      · rename_i e; rw [e] at *; exact this
      · rw [if_pos rfl]; exact this
    have zl : decide ((((([x] : List Nat).map fun (a : Nat) => (a : Int)).length : Nat) : Int) = 0) = false := rfl
    have zi : inb (0 : Int) ((([x] : List Nat).map fun (a : Nat) => (a : Int)).length) = true := rfl
    have zx : nth (([x] : List Nat).map fun (a : Nat) => (a : Int)) (Int.toNat (0 : Int)) = (x : Int) := rfl
    have t3 : decide (S.length = H.length) = true := decide_eq_true (by rw [lS, hH])
    have t4 : decide (V.length = U.length) = true := decide_eq_true (by rw [lV, hU])
    have aI := atWI k1 k0 hn hm lS
    have aS := atWS k1 k0 hn hm lS
    have zf : decide (nth S (r * m + c) = 0) = false := decide_eq_false z
    -- the rows above, for whatever state
    have up : ∀ (A B : List Int), A.length = n * m → B.length = n * n → bndB 1000000 A = true → bndB 1000000 B = true → nth A (r * m + c) ≠ 0 →
        (impl_EchelonOf_l2_1_g n m (r : Int) (c : Int) n n ((0 : Int), A, B) = some (.inl ()) ∧ spec_EchelonOf_l2_g (r : Int) (c : Int) ((0 : Int), (n : Int), (m : Int), (n : Int), (n : Int), A, B) = some (.inl ())) ∨
        ∃ A' B', impl_EchelonOf_l2_1_g n m (r : Int) (c : Int) n n ((0 : Int), A, B) = some (.inr (A', B')) ∧ spec_EchelonOf_l2_g (r : Int) (c : Int) ((0 : Int), (n : Int), (m : Int), (n : Int), (n : Int), A, B) = some (.inr ((n : Int), (m : Int), (n : Int), (n : Int), A', B')) ∧ A'.length = n * m ∧ B'.length = n * n ∧ bndB 1000000 A' = true ∧ bndB 1000000 B' = true := by
      intro A B lA lB bA bB zA
      obtain ⟨uI, uS⟩ := redU (x0 := 0) (x1 := 0) (xs := []) (c := c) (r := r) h1 h2 hn hm k0 k1 r 0 A B (by omega) lA lB zA
      cases hb : (redF n m c r r 0 A B).1 with
      | false =>
        rw [hb] at uI uS
        simp only [Bool.false_eq_true, if_false] at uI uS
        exact .inl ⟨uI, uS⟩
      | true =>
        rw [hb] at uI uS
        simp only [if_true] at uI uS
        obtain ⟨A', hA'⟩ : ∃ A', A' = (redF n m c r r 0 A B).2.1 := ⟨_, rfl⟩
        obtain ⟨B', hB'⟩ : ∃ B', B' = (redF n m c r r 0 A B).2.2 := ⟨_, rfl⟩
        have eR : redF n m c r r 0 A B = (true, A', B') := by rw [hA', hB', ← hb]
        obtain ⟨q1, q2, q3, q4, _⟩ := redF_ok k0 k1 r 0 A B A' B' (by omega) (by omega) lA lB bA bB zA eR
        rw [eR] at uI uS
        exact .inr ⟨A', B', uI, uS, q1, q2, q3, q4⟩
    by_cases neg : nth S (r * m + c) < 0
    · have zn : decide (nth S (r * m + c) < 0) = true := decide_eq_true neg
      have b3 := neg_bnd k1 lS bS
      have b4 := neg_bnd k1 lV bV
      have tI := takeBI (q := 2) h1 h2 k1 k1 hn hm lS lV
      rw [b3, b4] at tI
      have tS1 := takeS (q := 2) k1 k1 hn hm lS
      have tS2 := takeS (q := 2) k1 k1 hn hn lV
      have d3 : decide ((takeL n m S r r 2).length = S.length) = true := decide_eq_true (by rw [takeL_length, lS])
      have d4 : decide ((takeL n n V r r 2).length = V.length) = true := decide_eq_true (by rw [takeL_length, lV])
      have zz : nth (takeL n m S r r 2) (r * m + c) ≠ 0 := by rw [neg_at k1 k0 lS bS]; omega
      rcases up _ _ (takeL_length _ _ _ _ _ _) (takeL_length _ _ _ _ _ _) b3 b4 zz with ⟨u1, u2⟩ | ⟨A', B', u1, u2, q1, q2, q3, q4⟩
      · refine .inl ⟨wi_inr (T := fun s => (impl_EchelonOf_l0_1_T n m xs n n s).run) ?_, wi_inr (T := fun s => (spec_EchelonOf_l0_T n m xs s).run) ?_⟩
        · simp only [impl_EchelonOf_l0_1_T, Tree.run, lt_nat, k0, k1, decide_true, if_true, g1, t1, t2, fI, zl, zi, zx, es, d1, d2, aI, zn, tI, d3, d4, u1, Bool.and_true, Option.bind_some, Bool.not_true, Bool.false_eq_true, if_false]
        · simp only [spec_EchelonOf_l0_T, Tree.run, lt_nat, k0, k1, decide_true, if_true, g2, t3, t4, aS, zf, zn, tS1, tS2, d3, d4, u2, Option.bind_some, Bool.not_true, Bool.false_eq_true, if_false]
      · have sI : (impl_EchelonOf_l0_1_T n m xs n n ((r : Int), (c : Int), H, U)).run = some (.inl (((r + 1 : Nat) : Int), ((c + 1 : Nat) : Int), A', B')) := by
          simp only [impl_EchelonOf_l0_1_T, Tree.run, lt_nat, k0, k1, decide_true, if_true, g1, t1, t2, fI, zl, zi, zx, es, d1, d2, aI, zn, tI, d3, d4, u1, wc, wr, Bool.and_true, Option.bind_some, Bool.not_true, Bool.false_eq_true, if_false]
        have sS : (spec_EchelonOf_l0_T n m xs ((r : Int), (c : Int), (n : Int), (m : Int), (n : Int), (n : Int), H, U)).run = some (.inl (((r + 1 : Nat) : Int), ((c + 1 : Nat) : Int), (n : Int), (m : Int), (n : Int), (n : Int), A', B')) := by
          simp only [spec_EchelonOf_l0_T, Tree.run, lt_nat, k0, k1, decide_true, if_true, g2, t3, t4, aS, zf, zn, tS1, tS2, d3, d4, u2, wc, wr, Option.bind_some, Bool.not_true, Bool.false_eq_true, if_false]
        rcases ih (c + 1) (r + 1) A' B' (by omega) (by omega) q1 q2 q3 q4 with ⟨v1, v2⟩ | ⟨H', U', v1, v2, v3⟩
        · exact .inl ⟨wi_inl (T := fun s => (impl_EchelonOf_l0_1_T n m xs n n s).run) sI v1, wi_inl (T := fun s => (spec_EchelonOf_l0_T n m xs s).run) sS v2⟩
        · exact .inr ⟨H', U', wi_inl (T := fun s => (impl_EchelonOf_l0_1_T n m xs n n s).run) sI v1, wi_inl (T := fun s => (spec_EchelonOf_l0_T n m xs s).run) sS v2, v3⟩
    · have zn : decide (nth S (r * m + c) < 0) = false := decide_eq_false neg
      rcases up S V lS lV bS bV z with ⟨u1, u2⟩ | ⟨A', B', u1, u2, q1, q2, q3, q4⟩
      · refine .inl ⟨wi_inr (T := fun s => (impl_EchelonOf_l0_1_T n m xs n n s).run) ?_, wi_inr (T := fun s => (spec_EchelonOf_l0_T n m xs s).run) ?_⟩
        · simp only [impl_EchelonOf_l0_1_T, Tree.run, lt_nat, k0, k1, decide_true, if_true, g1, t1, t2, fI, zl, zi, zx, es, d1, d2, aI, zn, u1, Option.bind_some, Bool.not_true, Bool.false_eq_true, if_false]
        · simp only [spec_EchelonOf_l0_T, Tree.run, lt_nat, k0, k1, decide_true, if_true, g2, t3, t4, aS, zf, zn, u2, Option.bind_some, Bool.not_true, Bool.false_eq_true, if_false]
      · have sI : (impl_EchelonOf_l0_1_T n m xs n n ((r : Int), (c : Int), H, U)).run = some (.inl (((r + 1 : Nat) : Int), ((c + 1 : Nat) : Int), A', B')) := by
          simp only [impl_EchelonOf_l0_1_T, Tree.run, lt_nat, k0, k1, decide_true, if_true, g1, t1, t2, fI, zl, zi, zx, es, d1, d2, aI, zn, u1, wc, wr, Option.bind_some, Bool.not_true, Bool.false_eq_true, if_false]
        have sS : (spec_EchelonOf_l0_T n m xs ((r : Int), (c : Int), (n : Int), (m : Int), (n : Int), (n : Int), H, U)).run = some (.inl (((r + 1 : Nat) : Int), ((c + 1 : Nat) : Int), (n : Int), (m : Int), (n : Int), (n : Int), A', B')) := by
          simp only [spec_EchelonOf_l0_T, Tree.run, lt_nat, k0, k1, decide_true, if_true, g2, t3, t4, aS, zf, zn, u2, wc, wr, Option.bind_some, Bool.not_true, Bool.false_eq_true, if_false]
        rcases ih (c + 1) (r + 1) A' B' (by omega) (by omega) q1 q2 q3 q4 with ⟨v1, v2⟩ | ⟨H', U', v1, v2, v3⟩
        · exact .inl ⟨wi_inl (T := fun s => (impl_EchelonOf_l0_1_T n m xs n n s).run) sI v1, wi_inl (T := fun s => (spec_EchelonOf_l0_T n m xs s).run) sS v2⟩
        · exact .inr ⟨H', U', wi_inl (T := fun s => (impl_EchelonOf_l0_1_T n m xs n n s).run) sI v1, wi_inl (T := fun s => (spec_EchelonOf_l0_T n m xs s).run) sS v2, v3⟩
end
end Go.Proofs.Ytbjnjaclmcpbbaa.AM
