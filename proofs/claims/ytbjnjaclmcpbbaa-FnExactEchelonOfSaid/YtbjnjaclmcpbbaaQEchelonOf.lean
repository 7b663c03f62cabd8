/- The law EchelonOf: both sides, and the law. -/
import Derived.Test.YtbjnjaclmcpbbaaEC2
set_option linter.unusedSimpArgs false
set_option linter.unusedVariables false
set_option maxHeartbeats 2000000
namespace Go.Proofs.Ytbjnjaclmcpbbaa.AM

def idF (i k : Nat) : Int := if i = k then 1 else 0
theorem one_v {i k : Nat} : impl_unitWhole_1_v (i : Int) (k : Int) = idF i k := by
  have e : decide ((i : Int) = (k : Int)) = decide (i = k) := by
    by_cases h : i = k
    · subst h; simp
    · rw [decide_eq_false h]; exact decide_eq_false (by omega)
  unfold impl_unitWhole_1_v idF
  rw [e]
  by_cases h : i = k <;> simp [h]
theorem rowAdd {n i j : Nat} (hj : j < n) : (List.range (i * n + j)).map (fun p => idF (p / n) (p % n)) ++ [idF i j] = (List.range (i * n + (j + 1))).map (fun p => idF (p / n) (p % n)) := by
  rw [← Nat.add_assoc, List.range_succ, List.map_append]
  simp only [List.map_cons, List.map_nil, rc_div hj, rc_mod hj]
theorem unit1 {n i : Nat} (hn : n ≤ 6) (hi : i < n) : ∀ (d j : Nat), j + d = n → impl_wholeBy_l2_1_g n (i : Int) ((j : Int), (List.range (i * n + j)).map (fun p => idF (p / n) (p % n))) = some ((List.range (i * n + n)).map (fun p => idF (p / n) (p % n))) := by
  have h36 := le36 hn hn
  have hin := rc_lt hi (show n - 1 < n by omega)
  intro d
  induction d with
  | zero =>
    intro j hj
    have k0 : ¬ j < n := by omega
    have : j = n := by omega
    subst this
    refine wi_inr (T := fun s => (impl_wholeBy_l2_1_T (j : Int) (i : Int) s).run) ?_
    simp only [impl_wholeBy_l2_1_T, Tree.run, lt_nat, k0, decide_false, Bool.false_eq_true, if_false]
  | succ d ih =>
    intro j hj
    have k0 : j < n := by omega
    refine wi_inl (T := fun s => (impl_wholeBy_l2_1_T (n : Int) (i : Int) s).run) (s' := (((j + 1 : Nat) : Int), (List.range (i * n + (j + 1))).map (fun p => idF (p / n) (p % n)))) ?_ (ih (j + 1) (by omega))
    have hf : fits ((List.range (i * n + (j + 1))).map (fun p => idF (p / n) (p % n))).length = true := fitsN (by simp; omega)
    simp only [impl_wholeBy_l2_1_T, Tree.run, lt_nat, k0, decide_true, if_true, one_v, rowAdd k0, hf, w1 (show j ≤ 1000 by omega)]
theorem unit2 {n i : Nat} (hn : n ≤ 6) (hi : i < n) : ∀ (d j : Nat), j + d = n → impl_wholeBy_l2_g n (i : Int) (.inr ((j : Int), (List.range (i * n + j)).map (fun p => idF (p / n) (p % n)))) = some (.inr ((List.range (i * n + n)).map (fun p => idF (p / n) (p % n)))) := by
  have h36 := le36 hn hn
  have hin := rc_lt hi (show n - 1 < n by omega)
  intro d
  induction d with
  | zero =>
    intro j hj
    have k0 : ¬ j < n := by omega
    have : j = n := by omega
    subst this
    refine wi_inr (T := fun s => (impl_wholeBy_l2_T (j : Int) (i : Int) s).run) ?_
    simp only [impl_wholeBy_l2_T, Tree.run, lt_nat, k0, decide_false, Bool.false_eq_true, if_false]
  | succ d ih =>
    intro j hj
    have k0 : j < n := by omega
    refine wi_inl (T := fun s => (impl_wholeBy_l2_T (n : Int) (i : Int) s).run) (s' := .inr (((j + 1 : Nat) : Int), (List.range (i * n + (j + 1))).map (fun p => idF (p / n) (p % n)))) ?_ (ih (j + 1) (by omega))
    have hf : fits ((List.range (i * n + (j + 1))).map (fun p => idF (p / n) (p % n))).length = true := fitsN (by simp; omega)
    simp only [impl_wholeBy_l2_T, Tree.run, lt_nat, k0, decide_true, if_true, one_v, rowAdd k0, hf, w1 (show j ≤ 1000 by omega)]
theorem unitI {n : Nat} (h1 : 1 ≤ n) (hn : n ≤ 6) : impl_unitWhole_g n = some (.inr ((n : Int), (n : Int), rc n n idF)) := by
  have rows : ∀ (d i : Nat), i + d = n → impl_wholeBy_l0_g n n (.inr ((i : Int), (List.range (i * n)).map (fun p => idF (p / n) (p % n)))) = some (.inr (rc n n idF)) := by
    intro d
    induction d with
    | zero =>
      intro i hi
      have k0 : ¬ i < n := by omega
      have : i = n := by omega
      subst this
      refine wi_inr (T := fun s => (impl_wholeBy_l0_T (i : Int) (i : Int) s).run) ?_
      simp only [impl_wholeBy_l0_T, Tree.run, lt_nat, k0, decide_false, Bool.false_eq_true, if_false, rc]
    | succ d ih =>
      intro i hi
      have k0 : i < n := by omega
      have e := ih (i + 1) (by omega)
      rw [Nat.add_mul, Nat.one_mul] at e
      refine wi_inl (T := fun s => (impl_wholeBy_l0_T (n : Int) (n : Int) s).run) ?_ e
      have u := unit1 hn k0 n 0 (by omega)
      rw [Nat.add_zero] at u
      have u' : impl_wholeBy_l2_1_g n (i : Int) ((0 : Int), (List.range (i * n)).map (fun p => idF (p / n) (p % n))) = some ((List.range (i * n + n)).map (fun p => idF (p / n) (p % n))) := u
      simp only [impl_wholeBy_l0_T, Tree.run, lt_nat, k0, decide_true, if_true, u', Option.bind_some, w1 (show i ≤ 1000 by omega)]
  have first : impl_wholeBy_l2_g n (0 : Int) (.inl (0 : Int)) = some (.inr ((List.range n).map (fun p => idF (p / n) (p % n)))) := by
    have e := unit2 (i := 0) hn (by omega) (n - 1) 1 (by omega)
    rw [Nat.zero_mul, Nat.zero_add, Nat.zero_add] at e
    refine wi_inl (T := fun s => (impl_wholeBy_l2_T (n : Int) (0 : Int) s).run) ?_ e
    have k0 : decide ((0 : Int) < (n : Int)) = true := decide_eq_true (by omega)
    have v : impl_unitWhole_1_v (0 : Int) (0 : Int) = idF 0 0 := one_v (i := 0) (k := 0)
    have f1 : fits ([idF 0 0] : List Int).length = true := rfl
    have f2 : decide (([idF 0 0] : List Int).length = 0) = false := rfl
    have e1 : (List.range 1).map (fun p => idF (p / n) (p % n)) = [idF 0 0] := by simp [List.range_succ]
    rw [e1]
    simp only [impl_wholeBy_l2_T, Tree.run, k0, if_true, v, f1, f2, Bool.false_eq_true, if_false]
    rfl
  have all : impl_wholeBy_l0_g n n (.inl (0 : Int)) = some (.inr (rc n n idF)) := by
    have e := rows (n - 1) 1 (by omega)
    rw [Nat.one_mul] at e
    refine wi_inl (T := fun s => (impl_wholeBy_l0_T (n : Int) (n : Int) s).run) ?_ e
    have k0 : decide ((0 : Int) < (n : Int)) = true := decide_eq_true (by omega)
    simp only [impl_wholeBy_l0_T, Tree.run, k0, if_true, first, Option.bind_some]
    rfl
  simp only [impl_unitWhole_g, impl_unitWhole_T, impl_wholeBy_g, impl_wholeBy_T, Tree.run, all, Option.bind_some, if_true]
theorem unitS {n : Nat} (h1 : 1 ≤ n) (hn : n ≤ 6) : spec_l06Unit_g n = some ((n : Int), (n : Int), rc n n idF) := by
  have h36 := le36 hn hn
  have key : ∀ (d i : Nat) (s : List Int), i + d = n → s.length = n * n → ∃ s', spec_l06Unit_l0_g n n n ((i : Int), s) = some s' ∧ s'.length = n * n ∧ ∀ a b, a < n → b < n → nth s' (a * n + b) = if i ≤ a ∧ a = b then 1 else nth s (a * n + b) := by
    intro d
    induction d with
    | zero =>
      intro i s hi hs
      have k0 : ¬ i < n := by omega
      refine ⟨s, wi_inr (T := fun s => (spec_l06Unit_l0_T (n : Int) (n : Int) (n : Int) s).run) ?_, hs, fun a b ha hb => by rw [if_neg (by omega)]⟩
      simp only [spec_l06Unit_l0_T, Tree.run, lt_nat, k0, decide_false, Bool.false_eq_true, if_false]
    | succ d ih =>
      intro i s hi hs
      have k0 : i < n := by omega
      obtain ⟨s', g1, g2, g3⟩ := ih (i + 1) (s.set (i * n + i) 1) (by omega) (by simp [hs])
      have at1 := atw k0 k0 (show n ≤ 12 by omega) (show n ≤ 12 by omega)
      have at2 : decide ((i * n + i : Nat) < s.length) = true := decide_eq_true (by rw [hs]; exact rc_lt k0 k0)
      refine ⟨s', wi_inl (T := fun s => (spec_l06Unit_l0_T (n : Int) (n : Int) (n : Int) s).run) ?_ g1, g2, fun a b ha hb => ?_⟩
      · simp only [spec_l06Unit_l0_T, Tree.run, lt_nat, k0, decide_true, if_true, at1, inb_nat, at2, Int.toNat_natCast, w1 (show i ≤ 1000 by omega)]
      · rw [g3 a b ha hb, setG (by rw [hs]; exact rc_lt k0 k0)]
        by_cases e1 : a = b
        · subst e1
          by_cases e2 : i + 1 ≤ a
          · rw [if_pos ⟨e2, rfl⟩, if_pos ⟨by omega, rfl⟩]
          · rw [if_neg (by omega)]
            by_cases e3 : a = i
            · subst e3; rw [if_pos rfl, if_pos ⟨Nat.le_refl _, rfl⟩]
            · have : ¬ (i * n + i = a * n + a) := fun h => e3 (rcinj k0 hb h).1.symm
              rw [if_neg this, if_neg (by omega)]
        · have : ¬ (i * n + i = a * n + b) := fun h => e1 (by have := rcinj k0 hb h; omega)
          rw [if_neg (by omega), if_neg this, if_neg (by omega)]
  obtain ⟨s', g1, g2, g3⟩ := key n 0 (List.replicate (n * n) 0) (by omega) (by simp)
  have e : s' = rc n n idF := rc_ext g2 fun i k hi hk => by
    rw [g3 i k hi hk]
    unfold idF
    have z : nth (List.replicate (n * n) (0 : Int)) (i * n + k) = 0 := by
      rw [nth_of _ _ (by simp; exact rc_lt hi hk)]; simp
    rw [z]
    by_cases h : i = k
    · rw [if_pos ⟨Nat.zero_le _, h⟩, if_pos h]
    · rw [if_neg (by omega), if_neg h]
  rw [e] at g1
  have w : IntKind.i64.wrap ((n : Int) * (n : Int)) = ((n * n : Nat) : Int) := mulw (by omega) (by omega)
  have z1 : spec_l06Zero_g n n = some ((n : Int), (n : Int)) := by
    have : inb ((n * n : Nat) : Int) (maxN + 1) = true := by rw [inb_nat]; exact decide_eq_true (by unfold maxN; omega)
    simp only [spec_l06Zero_g, spec_l06Zero_T, Tree.run, w, this, if_true]
  have g1' : spec_l06Unit_l0_g n n n ((0 : Int), List.replicate (n * n) (0 : Int)) = some (rc n n idF) := g1
  simp only [spec_l06Unit_g, spec_l06Unit_T, Tree.run, z1, w, Int.toNat_natCast, g1', Option.bind_some, if_true]
theorem id_bnd {n : Nat} : bndB 1000000 (rc n n idF) = true := by
  rw [bnd_iff]
  intro p hp
  rw [rc_length] at hp
  obtain ⟨q1, q2, q3⟩ := rc_of hp
  rw [← q3, rc_nth _ q1 q2]
  unfold idF
  split <;> omega
theorem ec_both (x0 x1 : Int) (x2 : List Int) (h2 : x2.length ≤ maxN) :
    (impl_EchelonOf_g x0 x1 x2 = some (.inl ()) ∧ spec_EchelonOf_g x0 x1 x2 = some (.inl ())) ∨
    ∃ a b c d H U, impl_EchelonOf_g x0 x1 x2 = some (.inr (.inr (a, b, c, d, H, U))) ∧ spec_EchelonOf_g x0 x1 x2 = some (.inr (a, b, c, d, H, U)) ∧ H.length ≤ 1024 ∧ U.length ≤ 1024 := by
  have vI := vwI x0 x1 x2 h2
  have vS := whS 1000000 x0 x1 x2 h2 (by omega) (by omega)
  cases hv : whB 1000000 x0 x1 x2 with
  | false =>
    rw [hv] at vI vS
    refine .inl ⟨?_, ?_⟩
    · simp only [impl_EchelonOf_g, impl_EchelonOf_T, Tree.run, vI, Option.bind_some, Bool.not_false, if_true]
    · simp only [spec_EchelonOf_g, spec_EchelonOf_T, Tree.run, vS, Option.bind_some, Bool.not_false, if_true]
  | true =>
    rw [hv] at vI vS
    obtain ⟨n, m, rfl, rfl, n1, n6, m1, m6, hl, hb⟩ := wh_shape hv
    have h36 := le36 n6 m6
    have h66 := le36 n6 n6
    have cl : slices_CloneI_g x2 = some () := by
      have q1 : decide (0 < x2.length) = true := decide_eq_true (by rw [hl]; exact Nat.mul_pos n1 m1)
      have q2 : fits x2.length = true := fitsN (by omega)
      simp only [slices_CloneI_g, slices_CloneI_T, Tree.run, List.nil_append, q1, q2, if_true]
    have ow : spec_l06Own_g n m x2 = some ((n : Int), (m : Int)) := by
      have q2 : fits x2.length = true := fitsN (by omega)
      simp only [spec_l06Own_g, spec_l06Own_T, Tree.run, List.nil_append, q2, if_true]
    have uI := unitI n1 n6
    have uS := unitS n1 n6
    rcases mainB (xs := x2) n1 m1 n6 m6 m 0 0 x2 (rc n n idF) (by omega) (by omega) hl (rc_length _ _ _) hb id_bnd with ⟨g1, g2⟩ | ⟨H, U, g1, g2, l1, l2⟩
    · refine .inl ⟨?_, ?_⟩
      · have g1' : impl_EchelonOf_l0_1_g n m x2 n n ((0 : Int), (0 : Int), x2, rc n n idF) = some (.inl ()) := g1
        simp only [impl_EchelonOf_g, impl_EchelonOf_T, Tree.run, vI, cl, uI, List.nil_append, g1', Option.bind_some, Bool.not_true, Bool.false_eq_true, if_false, if_true]
      · have g2' : spec_EchelonOf_l0_g n m x2 ((0 : Int), (0 : Int), (n : Int), (m : Int), (n : Int), (n : Int), x2, rc n n idF) = some (.inl ()) := g2
        simp only [spec_EchelonOf_g, spec_EchelonOf_T, Tree.run, vS, ow, uS, List.nil_append, g2', Option.bind_some, Bool.not_true, Bool.false_eq_true, if_false, if_true]
    · refine .inr ⟨n, m, n, n, H, U, ?_, ?_, by omega, by omega⟩
      · have g1' : impl_EchelonOf_l0_1_g n m x2 n n ((0 : Int), (0 : Int), x2, rc n n idF) = some (.inr (H, U)) := g1
        simp only [impl_EchelonOf_g, impl_EchelonOf_T, Tree.run, vI, cl, uI, List.nil_append, g1', Option.bind_some, Bool.not_true, Bool.false_eq_true, if_false, if_true]
      · have g2' : spec_EchelonOf_l0_g n m x2 ((0 : Int), (0 : Int), (n : Int), (m : Int), (n : Int), (n : Int), x2, rc n n idF) = some (.inr ((n : Int), (m : Int), (n : Int), (n : Int), H, U)) := g2
        simp only [spec_EchelonOf_g, spec_EchelonOf_T, Tree.run, vS, ow, uS, List.nil_append, g2', Option.bind_some, Bool.not_true, Bool.false_eq_true, if_false, if_true]
theorem ec_law (x0 x1 : Int) (x2 : List Int) (h0 : -9223372036854775808 ≤ x0 ∧ x0 < 9223372036854775808) (h1 : -9223372036854775808 ≤ x1 ∧ x1 < 9223372036854775808) (h2 : x2.length ≤ maxN) : laws_FnExactEchelonOf_g x0 x1 x2 = some true := by
  have q2 := h2
  unfold maxN at q2
  have en := eqW_self 0 0 [] (by simp [maxN])
  have hn := heldW_nil 1 (by omega) (by omega)
  have m0 := markW_ok x2 (1) h2 (by omega) (by omega)
  have g1 : decide (((1 : Int) + x2.length : Int) < 0) = false := by simp; omega
  have t0 := toW_ok x0 x1 x2 h2
  have e0 := eqW_self x0 x1 x2 h2
  cases z0 : decide (laws_szWhole_v x2 (1048576 : Int) < 0)
  case true => simp only [laws_FnExactEchelonOf_g, laws_FnExactEchelonOf_T, Tree.run, z0, Bool.false_eq_true, if_false, if_true]
  rcases ec_both x0 x1 x2 h2 with ⟨i1, i2⟩ | ⟨a, b, c, d, H, U, i1, i2, l1, l2⟩
  · simp only [laws_FnExactEchelonOf_g, laws_FnExactEchelonOf_T, Tree.run, z0, i1, i2, en, hn, markW_nil, m0, t0, e0, g1, Option.bind_some, Bool.false_eq_true, if_false, if_true, decide_true, Bool.not_true, Bool.not_false, beq_self_eq_true, marks_length, marksI_length]
    first | done | simp [Tree.run]
  · have hd0 : H.length ≤ maxN := by unfold maxN; omega
    have md0 := markW_ok H (1) hd0 (by omega) (by omega)
    have hl0 := heldW_ok (1) H.length hd0 (by omega) (by omega)
    have hd1 : U.length ≤ maxN := by unfold maxN; omega
    have md1 := markW_ok U (1 + H.length) hd1 (by omega) (by omega)
    have hl1 := heldW_ok (1 + H.length) U.length hd1 (by omega) (by omega)
    have g20 : decide (((1 : Int) + H.length : Int) < 0) = false := by simp; omega
    have g21 : decide (((1 : Int) + H.length + U.length : Int) < 0) = false := by simp; omega
    have ea := eqW_self a b H hd0
    have eb := eqW_self c d U hd1
    simp only [laws_FnExactEchelonOf_g, laws_FnExactEchelonOf_T, Tree.run, z0, i1, i2, en, hn, markW_nil, m0, t0, e0, g1, md0, hl0, g20, md1, hl1, g21, ea, eb, Option.bind_some, Bool.false_eq_true, if_false, if_true, decide_true, Bool.not_true, Bool.not_false, beq_self_eq_true, marks_length, marksI_length]
    first | done | simp [Tree.run]
theorem ec_lawL (x0 x1 : Int) (x2 : Nat) (h0 : -9223372036854775808 ≤ x0 ∧ x0 < 9223372036854775808) (h1 : -9223372036854775808 ≤ x1 ∧ x1 < 9223372036854775808) (h2 : x2 < 9223372036854775808) (big : maxN < x2) : laws_FnExactEchelonOf_len_g x2 = some true := by
  have e := szW_len x2 (1048576) h2 (by omega) (by omega) big
  simp [laws_FnExactEchelonOf_len_g, laws_FnExactEchelonOf_len_T, Tree.run, e]
end Go.Proofs.Ytbjnjaclmcpbbaa.AM
