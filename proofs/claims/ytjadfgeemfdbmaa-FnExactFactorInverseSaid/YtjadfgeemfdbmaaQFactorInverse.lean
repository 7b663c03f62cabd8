/- The law FactorInverse: both sides, and the law. -/
import Derived.Test.YtjadfgeemfdbmaaFA0
set_option linter.unusedSimpArgs false
set_option linter.unusedVariables false
set_option maxHeartbeats 1000000
namespace Go.Proofs.Ytjadfgeemfdbmaa.AM

/-- Numbers of a row taken away, one after another. -/
noncomputable def lessN (M l : List Nat) (n i : Nat) : Nat → Nat → Nat → Nat
  | _, 0, x => x
  | a, d + 1, x => lessN M l n i (a + 1) d (fsub .f32 x (fmul .f32 (nth M (i * n + a)) (nth l a)))
theorem lessN_congr {M l l' : List Nat} {n i : Nat} : ∀ (d a x : Nat), (∀ k, a ≤ k → k < a + d → nth l k = nth l' k) → lessN M l n i a d x = lessN M l' n i a d x
  | 0, _, _, _ => rfl
  | d + 1, a, x, h => by
    simp only [lessN]
    rw [h a (Nat.le_refl _) (by omega)]
    exact lessN_congr d (a + 1) _ fun k h1 h2 => h k (by omega) (by omega)
theorem lessRI {n i : Nat} {M l : List Nat} (hn : n ≤ 12) (hi : i < n) (hM : M.length = n * n) {to : Nat} (ht : to ≤ n) (hl : to ≤ l.length) : ∀ (d a x : Nat), a + d = to → impl_Matrix_lessRow_l0_g n M (i : Int) (to : Int) l (x, (a : Int)) = some (lessN M l n i a d x) := by
  intro d
  induction d with
  | zero =>
    intro a x h
    have c : ¬ a < to := by omega
    refine whileM_inr ?_
    simp only [impl_Matrix_lessRow_l0_T, Tree.run, lt_nat, c, decide_false, Bool.false_eq_true, if_false, lessN]
  | succ d ih =>
    intro a x h
    have c : a < to := by omega
    have c2 : a < l.length := by omega
    refine whileM_inl ?_ (ih (a + 1) _ (by omega))
    simp only [impl_Matrix_lessRow_l0_T, impl_mul_v, Tree.run, lt_nat, inb_nat, c, c2, decide_true, if_true, atI hi (show a < n by omega) hn hn hM, Option.bind_some, Int.toNat_natCast, w1 (show a ≤ 1000 by omega), lessN]
theorem lessR {n i : Nat} {M l : List Nat} (hn : n ≤ 12) (hi : i < n) (hM : M.length = n * n) {to a : Nat} (x : Nat) (ht : to ≤ n) (hl : to ≤ l.length) (ha : a ≤ to) : impl_Matrix_lessRow_g n n M x (i : Int) (a : Int) (to : Int) l = some (lessN M l n i a (to - a) x) := by
  simp only [impl_Matrix_lessRow_g, impl_Matrix_lessRow_T, Tree.run, lessRI hn hi hM ht hl (to - a) a x (by omega), Option.bind_some, if_true]
theorem lessS2 {n i : Nat} {M l : List Nat} (hn : n ≤ 12) (hi : i < n) (hM : M.length = n * n) (hl : i ≤ l.length) : ∀ (d a x : Nat), a + d = i → spec_l03Solve_l2_g n M (i : Int) l (x, (a : Int)) = some (lessN M l n i a d x) := by
  intro d
  induction d with
  | zero =>
    intro a x h
    have c : ¬ a < i := by omega
    refine whileM_inr ?_
    simp only [spec_l03Solve_l2_T, Tree.run, lt_nat, c, decide_false, Bool.false_eq_true, if_false, lessN]
  | succ d ih =>
    intro a x h
    have c : a < i := by omega
    have c2 : a < l.length := by omega
    refine whileM_inl ?_ (ih (a + 1) _ (by omega))
    simp only [spec_l03Solve_l2_T, Tree.run, lt_nat, inb_nat, c, c2, decide_true, if_true, atS hi (show a < n by omega) hn hn hM, Option.bind_some, Int.toNat_natCast, w1 (show a ≤ 1000 by omega), lessN]
theorem lessS6 {n i : Nat} {M l : List Nat} (hn : n ≤ 12) (hi : i < n) (hM : M.length = n * n) (hl : l.length = n) : ∀ (d a x : Nat), a + d = n → spec_l03Solve_l6_g n n M (i : Int) l (x, (a : Int)) = some (lessN M l n i a d x) := by
  intro d
  induction d with
  | zero =>
    intro a x h
    have c : ¬ a < n := by omega
    refine whileM_inr ?_
    simp only [spec_l03Solve_l6_T, Tree.run, lt_nat, c, decide_false, Bool.false_eq_true, if_false, lessN]
  | succ d ih =>
    intro a x h
    have c : a < n := by omega
    have c2 : a < l.length := by omega
    refine whileM_inl ?_ (ih (a + 1) _ (by omega))
    simp only [spec_l03Solve_l6_T, Tree.run, lt_nat, inb_nat, c, c2, decide_true, if_true, atS hi c hn hn hM, Option.bind_some, Int.toNat_natCast, w1 (show a ≤ 1000 by omega), lessN]
/-- Forward: what comes of the first i rows. -/
noncomputable def fwd (M : List Nat) (n : Nat) (c : Nat → Nat) : Nat → List Nat
  | 0 => []
  | i + 1 => fwd M n c i ++ [lessN M (fwd M n c i) n i 0 i (c i)]
theorem fwd_length (M : List Nat) (n : Nat) (c : Nat → Nat) : ∀ i, (fwd M n c i).length = i
  | 0 => rfl
  | i + 1 => by simp [fwd, fwd_length M n c i]
theorem fwdS {n : Nat} {M b : List Nat} {xs : List Int} (hn : n ≤ 12) (hM : M.length = n * n) (ho : OrdOk xs) (hx : xs.length = n) (hb : b.length = n) : spec_l03Solve_l0_g n n M xs b ((0 : Int), ([] : List Nat)) = some (fwd M n (fun i => nth b (nth xs i).toNat) n) := by
  refine whileM_fix (T := fun s => (spec_l03Solve_l0_T n n M xs b s).run) (n := n) (fun i => ((i : Int), fwd M n (fun i => nth b (nth xs i).toNat) i)) ?_ ?_
  · intro i hi
    obtain ⟨g1, g2⟩ := ho.inr i (by omega)
    have hl := fwd_length M n (fun i => nth b (nth xs i).toNat) i
    have c1 : decide (i < xs.length) = true := decide_eq_true (by omega)
    have c2 : inb (nth xs i) b.length = true := inb_iff.2 ⟨g1, by omega⟩
    have l2 := lessS2 (l := fwd M n (fun i => nth b (nth xs i).toNat) i) hn hi hM (by omega) i 0 (nth b (nth xs i).toNat) (by omega)
    have l2' : spec_l03Solve_l2_g n M (i : Int) (fwd M n (fun i => nth b (nth xs i).toNat) i) (nth b (nth xs i).toNat, (0 : Int)) = _ := l2
    simp only [spec_l03Solve_l0_T, Tree.run, lt_nat, hi, decide_true, if_true, inb_nat, c1, Int.toNat_natCast, c2, l2', Option.bind_some, w1 (show i ≤ 1000 by omega)]
    rw [if_pos (fitsN (by simp [hl]; omega))]
    rfl
  · simp [spec_l03Solve_l0_T, Tree.run]
theorem gatherI {n : Nat} {b : List Nat} {xs : List Int} (hn : n ≤ 12) (ho : OrdOk xs) (hx : xs.length = n) (hb : b.length = n) : impl_Factor_solve_l0_g xs b ((0 : Int), ([] : List Nat)) = some ((List.range n).map fun i => nth b (nth xs i).toNat) := by
  refine appI (T := fun s => (impl_Factor_solve_l0_T xs b s).run) (f := fun i => nth b (nth xs i).toNat) ?_ ?_
  · intro i s hi hs
    obtain ⟨g1, g2⟩ := ho.inr i (by omega)
    have c1 : decide (i < xs.length) = true := decide_eq_true (by omega)
    have c2 : inb (nth xs i) b.length = true := inb_iff.2 ⟨g1, by omega⟩
    simp only [impl_Factor_solve_l0_T, Tree.run, lt_nat, inb_nat, c1, if_true, Int.toNat_natCast, c2, w1 (show i ≤ 1000 by omega)]
    rw [if_pos (fitsN (by simp; omega))]
  · intro s
    simp [impl_Factor_solve_l0_T, Tree.run, hx]
theorem fwdI {n : Nat} {M b : List Nat} {xs : List Int} (h1 : 1 ≤ n) (hn : n ≤ 12) (hM : M.length = n * n) : impl_Factor_solve_l2_g n n M ((1 : Int), (List.range n).map fun i => nth b (nth xs i).toNat) = some (fwd M n (fun i => nth b (nth xs i).toNat) n) := by
  obtain ⟨c, hc⟩ : ∃ c : Nat → Nat, c = fun i => nth b (nth xs i).toNat := ⟨_, rfl⟩
  rw [← hc]
  have fd : ∀ i, i < n → (fwd M n c i ++ ((List.range n).map c).drop i).length = n := fun i hi => by simp [fwd_length]; omega
  have e0 : ((1 : Int), (List.range n).map c) = (((0 + 1 : Nat) : Int), fwd M n c (0 + 1) ++ ((List.range n).map c).drop (0 + 1)) := by
    obtain ⟨m, rfl⟩ : ∃ m, n = m + 1 := ⟨n - 1, by omega⟩
    simp only [fwd, lessN, List.nil_append]
    rw [List.range_succ_eq_map]
    rfl
  rw [e0]
  refine whileM_fix (T := fun s => (impl_Factor_solve_l2_T n n M s).run) (n := n - 1) (fun j => (((j + 1 : Nat) : Int), fwd M n c (j + 1) ++ ((List.range n).map c).drop (j + 1))) ?_ ?_
  · intro j hj
    have hi : j + 1 < n := by omega
    have hl := fwd_length M n c (j + 1)
    have hlen := fd (j + 1) hi
    have ec : nth (fwd M n c (j + 1) ++ ((List.range n).map c).drop (j + 1)) (j + 1) = c (j + 1) := by
      rw [nth_of _ _ (by omega), List.getElem_append_right (by omega)]
      simp [hl]
    have lr := lessR (l := fwd M n c (j + 1) ++ ((List.range n).map c).drop (j + 1)) hn hi hM (to := j + 1) (a := 0) (c (j + 1)) (by omega) (by omega) (by omega)
    have lr' : impl_Matrix_lessRow_g n n M (c (j + 1)) ((j + 1 : Nat) : Int) (0 : Int) ((j + 1 : Nat) : Int) (fwd M n c (j + 1) ++ ((List.range n).map c).drop (j + 1)) = some (lessN M (fwd M n c (j + 1)) n (j + 1) 0 (j + 1) (c (j + 1))) := by
      refine lr.trans ?_
      congr 1
      refine lessN_congr _ _ _ fun k _ hk => ?_
      rw [nth_of _ _ (by omega), nth_of _ _ (by omega), List.getElem_append_left (by omega)]
    have es : (fwd M n c (j + 1) ++ ((List.range n).map c).drop (j + 1)).set (j + 1) (lessN M (fwd M n c (j + 1)) n (j + 1) 0 (j + 1) (c (j + 1))) = fwd M n c (j + 1 + 1) ++ ((List.range n).map c).drop (j + 1 + 1) := by
      rw [List.set_append_right _ _ (by omega), hl, Nat.sub_self, List.drop_eq_getElem_cons (by simpa using hi), List.set_cons_zero]
      simp [fwd]
    simp only [impl_Factor_solve_l2_T, Tree.run, lt_nat, hi, inb_nat, hlen, decide_true, if_true, Int.toNat_natCast, ec, lr', Option.bind_some, es, w1 (show j + 1 ≤ 1000 by omega)]
  · have : n - 1 + 1 = n := by omega
    rw [this]
    have hd : ((List.range n).map c).drop n = [] := List.drop_eq_nil_of_le (by simp)
    simp [impl_Factor_solve_l2_T, Tree.run, hd]
theorem backB {n : Nat} {M b : List Nat} {xs : List Int} (hn : n ≤ 12) (hM : M.length = n * n) : ∀ (i : Nat) (x : List Nat), i ≤ n → x.length = n →
    ∃ r, impl_Matrix_upperSolve_l0_g n n M ((i : Int) - 1, x) = some r ∧ spec_l03Solve_l4_g n n M xs b ((i : Int) - 1, x) = some r ∧ r.length = n := by
  intro i
  induction i with
  | zero =>
    intro x _ hx
    have c : decide ((0 : Int) ≤ ((0 : Nat) : Int) - 1) = false := by decide
    refine ⟨x, ?_, ?_, hx⟩
    · refine whileM_inr ?_
      simp only [impl_Matrix_upperSolve_l0_T, Tree.run, c, Bool.false_eq_true, if_false]
    · refine whileM_inr ?_
      simp only [spec_l03Solve_l4_T, Tree.run, c, Bool.false_eq_true, if_false]
  | succ i ih =>
    intro x hi hx
    have hin : i < n := by omega
    have e : ((i + 1 : Nat) : Int) - 1 = (i : Int) := by omega
    have c : decide ((0 : Int) ≤ (i : Int)) = true := decide_eq_true (by omega)
    have w2 := w1 (show i ≤ 1000 by omega)
    have w3 : IntKind.i64.wrap ((i : Int) - 1) = (i : Int) - 1 := w64 (by omega) (by omega)
    have lr := lessR (l := x) hn hin hM (to := n) (a := i + 1) (nth x i) (Nat.le_refl _) (by omega) (by omega)
    have l6 := lessS6 (l := x) hn hin hM hx (n - (i + 1)) (i + 1) (nth x i) (by omega)
    obtain ⟨r, g1, g2, g3⟩ := ih (x.set i (fdiv .f32 (lessN M x n i (i + 1) (n - (i + 1)) (nth x i)) (nth M (i * n + i)))) (by omega) (by simp [hx])
    refine ⟨r, ?_, ?_, g3⟩
    · rw [e]; refine whileM_inl ?_ g1
      simp only [impl_Matrix_upperSolve_l0_T, Tree.run, c, inb_nat, hx, hin, decide_true, if_true, Int.toNat_natCast, w2, w3, lr, atI hin hin hn hn hM, Option.bind_some]
    · rw [e]; refine whileM_inl ?_ g2
      simp only [spec_l03Solve_l4_T, Tree.run, c, inb_nat, hx, hin, decide_true, if_true, Int.toNat_natCast, w2, w3, l6, atS hin hin hn hn hM, Option.bind_some]
theorem solveB {n : Nat} {M b : List Nat} {xs : List Int} (h1 : 1 ≤ n) (hn : n ≤ 12) (hM : M.length = n * n) (ho : OrdOk xs) (hx : xs.length = n) (hb : b.length = n) :
    ∃ r, impl_Factor_solve_g n n M xs b = some r ∧ spec_l03Solve_g n n M xs b = some r ∧ r.length = n := by
  have gI := gatherI hn ho hx hb
  have fI := fwdI (b := b) (xs := xs) h1 hn hM
  have fS := fwdS hn hM ho hx hb
  have hl := fwd_length M n (fun i => nth b (nth xs i).toNat) n
  generalize fwd M n (fun i => nth b (nth xs i).toNat) n = y at fI fS hl
  obtain ⟨r, k1, k2, k3⟩ := backB (b := b) (xs := xs) hn hM n y (Nat.le_refl _) hl
  have w3 : IntKind.i64.wrap ((n : Int) - 1) = (n : Int) - 1 := w64 (by omega) (by omega)
  have cl : slices_CloneF_g y = some () := by
    have q1 : decide (0 < y.length) = true := decide_eq_true (by omega)
    have q2 : fits y.length = true := fitsN (by omega)
    simp only [slices_CloneF_g, slices_CloneF_T, Tree.run, List.nil_append, q1, q2, if_true]
  refine ⟨r, ?_, ?_, k3⟩
  · simp only [impl_Factor_solve_g, impl_Factor_solve_T, impl_Matrix_upperSolve_g, impl_Matrix_upperSolve_T, Tree.run, gI, fI, cl, List.nil_append, w3, k1, Option.bind_some, if_true]
  · simp only [spec_l03Solve_g, spec_l03Solve_T, Tree.run, fS, w3, k2, Option.bind_some, if_true]
theorem unitCol {n k : Nat} (hk : k < n) : colL n n (unitL n) k = (List.replicate n 0).set k 1065353216 := by
  refine ext_nth (by simp [colL]) fun i hi => ?_
  simp only [colL_length] at hi
  rw [colL_nth hi]
  unfold unitL
  rw [rc_nth _ hi hk, set_sub (by simpa using hk)]
  by_cases e : i = k
  · rw [if_pos e, if_pos e.symm]
  · rw [if_neg e, if_neg (fun h => e h.symm), nth_of _ _ (by simpa using hi)]
    simp
theorem setColB {n k : Nat} {v : List Nat} (hk : k < n) (hn : n ≤ 12) (hv : v.length = n) : ∀ (d i : Nat) (s : List Nat), i + d = n → s.length = n * n →
    ∃ r, impl_Matrix_setColumn_l0_g n n (k : Int) v ((i : Int), s) = some r ∧ spec_l03Inverse_l2_g n (k : Int) n n v ((i : Int), s) = some r ∧ r.length = n * n := by
  intro d
  induction d with
  | zero =>
    intro i s hi hs
    have c : ¬ i < n := by omega
    refine ⟨s, ?_, ?_, hs⟩
    · refine whileM_inr ?_
      simp only [impl_Matrix_setColumn_l0_T, Tree.run, lt_nat, c, decide_false, Bool.false_eq_true, if_false]
    · refine whileM_inr ?_
      simp only [spec_l03Inverse_l2_T, Tree.run, lt_nat, c, decide_false, Bool.false_eq_true, if_false]
  | succ d ih =>
    intro i s hi hs
    have c : i < n := by omega
    have hlt : i * n + k < s.length := by rw [hs]; exact rc_lt c hk
    obtain ⟨r, g1, g2, g3⟩ := ih (i + 1) (s.set (i * n + k) (nth v i)) (by omega) (by simp [hs])
    refine ⟨r, ?_, ?_, g3⟩
    · refine whileM_inl ?_ g1
      simp only [impl_Matrix_setColumn_l0_T, Tree.run, lt_nat, inb_nat, hv, c, decide_true, if_true, Int.toNat_natCast, setR c hk hn hn hs, Option.bind_some, atw c hk hn hn, List.length_set, w1 (show i ≤ 1000 by omega)]
    · refine whileM_inl ?_ g2
      simp only [spec_l03Inverse_l2_T, Tree.run, lt_nat, inb_nat, hv, c, hlt, decide_true, if_true, Int.toNat_natCast, atw c hk hn hn, w1 (show i ≤ 1000 by omega)]
theorem invB {n : Nat} {M : List Nat} {xs : List Int} (h1 : 1 ≤ n) (hn : n ≤ 12) (hM : M.length = n * n) (ho : OrdOk xs) (hx : xs.length = n) : ∀ (d k : Nat) (s : List Nat), k + d = n → s.length = n * n →
    ∃ r, impl_FactorInverse_l0_g n n M xs n n ((k : Int), s) = some r ∧ spec_l03Inverse_l0_g n n M xs n n ((k : Int), s) = some r ∧ r.length = n * n := by
  intro d
  induction d with
  | zero =>
    intro k s hi hs
    have c : ¬ k < n := by omega
    refine ⟨s, ?_, ?_, hs⟩
    · refine whileM_inr ?_
      simp only [impl_FactorInverse_l0_T, Tree.run, lt_nat, c, decide_false, Bool.false_eq_true, if_false]
    · refine whileM_inr ?_
      simp only [spec_l03Inverse_l0_T, Tree.run, lt_nat, c, decide_false, Bool.false_eq_true, if_false]
  | succ d ih =>
    intro k s hi hs
    have c : k < n := by omega
    have hcol := colI (M := unitL n) c hn hn (by simp)
    rw [unitCol c] at hcol
    have hbl : ((List.replicate n 0).set k 1065353216).length = n := by simp
    obtain ⟨v, v1, v2, v3⟩ := solveB h1 hn hM ho hx hbl
    obtain ⟨t, t1, t2, t3⟩ := setColB c hn v3 n 0 s (by omega) hs
    have t1' : impl_Matrix_setColumn_l0_g n n (k : Int) v ((0 : Int), s) = some t := t1
    have t2' : spec_l03Inverse_l2_g n (k : Int) n n v ((0 : Int), s) = some t := t2
    obtain ⟨r, g1, g2, g3⟩ := ih (k + 1) t (by omega) t3
    have hib : inb (n : Int) (maxN + 1) = true := by rw [inb_nat]; unfold maxN; simp; omega
    refine ⟨r, ?_, ?_, g3⟩
    · refine whileM_inl ?_ g1
      simp only [impl_FactorInverse_l0_T, impl_Matrix_setColumn_g, impl_Matrix_setColumn_T, Tree.run, lt_nat, c, decide_true, if_true, unitI hn, hcol, v1, t1', t3, hs, Option.bind_some, w1 (show k ≤ 1000 by omega)]
    · refine whileM_inl ?_ g2
      simp only [spec_l03Inverse_l0_T, Tree.run, lt_nat, inb_nat, c, hib, decide_true, if_true, Int.toNat_natCast, v2, t2', Option.bind_some, w1 (show k ≤ 1000 by omega)]
theorem fi_both (x0 x1 : Int) (x2 : List Nat) (x3 : List Int) (h2 : x2.length ≤ maxN) (h3 : x3.length ≤ maxN) :
    ∃ r, impl_FactorInverse_g x0 x1 x2 x3 = some r ∧ spec_FactorInverse_g x0 x1 x2 x3 = some r ∧ ∀ d, r = .inr d → d.2.2.length ≤ 144 := by
  have vI := facI x0 x1 x2 x3 h2
  have vS := facS x0 x1 x2 x3 h2
  cases hv : facB x0 x1 x2 x3 with
  | false =>
    rw [hv] at vI vS
    exact ⟨.inl (), by simp only [impl_FactorInverse_g, impl_FactorInverse_T, Tree.run, vI, Option.bind_some, Bool.not_false, if_true], by simp only [spec_FactorInverse_g, spec_FactorInverse_T, Tree.run, vS, Option.bind_some, Bool.not_false, if_true], fun d h => by cases h⟩
  | true =>
    rw [hv] at vI vS
    obtain ⟨n, rfl, rfl, n1, n2, hl, _, ho, hx, _⟩ := fac_shape hv
    obtain ⟨t, g1, g2, g3⟩ := invB n1 n2 hl ho hx n 0 (List.replicate (n * n) 0) (by omega) (by simp)
    have g1' : impl_FactorInverse_l0_g n n x2 x3 n n ((0 : Int), List.replicate (n * n) 0) = some t := g1
    have g2' : spec_l03Inverse_l0_g n n x2 x3 n n ((0 : Int), List.replicate (n * n) 0) = some t := g2
    have kI := validR n1 n2 n1 n2 g3
    have kS := giveR n1 n2 n1 n2 g3
    cases ht : t.all sfin with
    | false =>
      rw [ht] at kI kS
      simp only [Bool.false_eq_true, if_false] at kI kS
      exact ⟨.inl (), by simp only [impl_FactorInverse_g, impl_FactorInverse_T, Tree.run, vI, newR n2 n2, mulw n2 n2, Int.toNat_natCast, g1', kI, Option.bind_some, Bool.not_true, Bool.false_eq_true, if_false, if_true], by simp only [spec_FactorInverse_g, spec_FactorInverse_T, spec_l03Inverse_g, spec_l03Inverse_T, Tree.run, vS, zeroS n2 n2, mulw n2 n2, Int.toNat_natCast, g2', kS, Option.bind_some, Bool.not_true, Bool.false_eq_true, if_false, if_true], fun d h => by cases h⟩
    | true =>
      rw [ht] at kI kS
      simp only [if_true] at kI kS
      refine ⟨.inr ((n : Int), (n : Int), t), by simp only [impl_FactorInverse_g, impl_FactorInverse_T, Tree.run, vI, newR n2 n2, mulw n2 n2, Int.toNat_natCast, g1', kI, Option.bind_some, Bool.not_true, Bool.false_eq_true, if_false, if_true], by simp only [spec_FactorInverse_g, spec_FactorInverse_T, spec_l03Inverse_g, spec_l03Inverse_T, Tree.run, vS, zeroS n2 n2, mulw n2 n2, Int.toNat_natCast, g2', kS, Option.bind_some, Bool.not_true, Bool.false_eq_true, if_false, if_true], fun d h => ?_⟩
      cases h
      have := le144 n2 n2
      simp only; omega
theorem fi_law (x0 : Int) (x1 : Int) (x2 : List Nat) (x3 : List Int) (h0 : -9223372036854775808 ≤ x0 ∧ x0 < 9223372036854775808) (h1 : -9223372036854775808 ≤ x1 ∧ x1 < 9223372036854775808) (h2 : x2.length ≤ maxN) (h3 : x3.length ≤ maxN) : laws_FnExactFactorInverse_g x0 x1 x2 x3 = some true := by
  have q2 := h2
  have q3 := h3
  unfold maxN at q2 q3
  obtain ⟨r, i1, i2, i3⟩ := fi_both x0 x1 x2 x3 h2 h3
  have enM := eqM_self 0 0 [] (by simp [maxN])
  have hnM := heldM_nil 1 (by omega) (by omega)
  have m0 := markFa_ok x2 x3 (1) h2 h3 (by omega) (by omega)
  have g1 : decide (((1 : Int) + x2.length + x3.length : Int) < 0) = false := by simp; omega
  cases z0 : decide (laws_szFactor_v x2 x3 (1048576) < 0)
  case true => simp only [laws_FnExactFactorInverse_g, laws_FnExactFactorInverse_T, Tree.run, z0, decide_false, Bool.false_eq_true, if_false, if_true] <;> simp [Tree.run, z0]
  cases r with
  | inl u =>
    simp only [laws_FnExactFactorInverse_g, laws_FnExactFactorInverse_T, Tree.run, i1, i2, enM, hnM, markM_nil, m0, toFa_ok x0 x1 x2 x3 h2 h3, eqFa_self x0 x1 x2 x3 h2 h3, g1, z0, Option.bind_some, Bool.false_eq_true, if_false, if_true, decide_true, Bool.not_true, Bool.not_false, beq_self_eq_true, marks_length, marksI_length]
    first | done | simp [Tree.run]
  | inr d =>
    obtain ⟨a0, b0, d0_⟩ := d
    have hd := i3 _ rfl
    simp only at hd
    have e0 := hd
    have hd0 : d0_.length ≤ maxN := by unfold maxN; omega
    have md0 := markM_ok d0_ (1) hd0 (by omega) (by omega)
    have hl0 := heldM_ok (1) d0_.length hd0 (by omega) (by omega)
    have g20 : decide (((1 : Int) + d0_.length : Int) < 0) = false := by simp; omega
    simp only [laws_FnExactFactorInverse_g, laws_FnExactFactorInverse_T, Tree.run, i1, i2, enM, hnM, markM_nil, m0, toFa_ok x0 x1 x2 x3 h2 h3, eqFa_self x0 x1 x2 x3 h2 h3, g1, z0, md0, hl0, g20, eqM_self a0 b0 d0_ hd0, Option.bind_some, Bool.false_eq_true, if_false, if_true, decide_true, Bool.not_true, Bool.not_false, beq_self_eq_true, marks_length, marksI_length]
    first | done | simp [Tree.run]
theorem fi_lawL (x0 : Int) (x1 : Int) (x2 : Nat) (x3 : Nat) (h0 : -9223372036854775808 ≤ x0 ∧ x0 < 9223372036854775808) (h1 : -9223372036854775808 ≤ x1 ∧ x1 < 9223372036854775808) (h2 : x2 < 9223372036854775808) (h3 : x3 < 9223372036854775808) (big : maxN < x2 ∨ maxN < x3) : laws_FnExactFactorInverse_len_g x2 x3 = some true := by
  have big0 := big
  unfold maxN at big
  have e : decide (laws_szFactor_len_v x2 x3 (1048576) < 0) = true := szFa_len x2 x3 (1048576) h2 h3 (by omega) (by omega) (by unfold maxN; omega)
  simp [laws_FnExactFactorInverse_len_g, laws_FnExactFactorInverse_len_T, Tree.run, e]
end Go.Proofs.Ytjadfgeemfdbmaa.AM
