/- Shift squares: reflections and solutions. -/
import Derived.Test.YtooakheodgndaaaP4
set_option linter.unusedSimpArgs false
set_option linter.unusedVariables false
namespace Go.Proofs.Ytooakheodgndaaa.AM

theorem wsub {a b : Nat} (h : b ≤ a) (ha : a ≤ 1000) : IntKind.i64.wrap ((a : Int) - (b : Int)) = ((a - b : Nat) : Int) := by rw [w64 (by omega) (by omega)]; omega
theorem wsub1 {m : Nat} (h : m ≤ 1000) : IntKind.i64.wrap (((m + 1 : Nat) : Int) - 1) = (m : Int) := by rw [w64 (by omega) (by omega)]; omega
theorem wsub2 {m : Nat} (h1 : 1 ≤ m) (h : m ≤ 1000) : IntKind.i64.wrap (((m + 1 : Nat) : Int) - 2) = ((m - 1 : Nat) : Int) := by rw [w64 (by omega) (by omega)]; omega
noncomputable def sA (v a : List Nat) (m : Nat) : Nat := dotN (fun j => fmul .f32 (nth a j) (nth v (m - j))) m
noncomputable def rA (v a : List Nat) (e m : Nat) : Nat := fdiv .f32 (fsub .f32 (nth v (m + 1)) (sA v a m)) e
noncomputable def lA (a : List Nat) (r m : Nat) : List Nat := (List.range m).map fun j => fsub .f32 (nth a j) (fmul .f32 r (nth a (m - 1 - j)))
noncomputable def nA (a : List Nat) (r m : Nat) : List Nat := lA a r m ++ [r]
noncomputable def nE (e r : Nat) : Nat := fmul .f32 e (fsub .f32 1065353216 (fmul .f32 r r))
@[simp] theorem lA_length (a : List Nat) (r m : Nat) : (lA a r m).length = m := by simp [lA]
@[simp] theorem nA_length (a : List Nat) (r m : Nat) : (nA a r m).length = m + 1 := by simp [nA]
theorem growS {v a : List Nat} {e m : Nat} (ha : a.length = m) (hm : m + 1 < v.length) (hv : v.length ≤ 12) : spec_l07Grow_g v a e ((m + 1 : Nat) : Int) = some (nE e (rA v a e m), rA v a e m, nA a (rA v a e m) m) := by
  have g1 : spec_l07Grow_l0_g v a ((m + 1 : Nat) : Int) ((0 : Nat), (0 : Int)) = some (sA v a m) := by
    refine whileM_fix (T := fun s => (spec_l07Grow_l0_T v a ((m + 1 : Nat) : Int) s).run) (n := m) (fun i => (dotN (fun j => fmul .f32 (nth a j) (nth v (m - j))) i, (i : Int))) ?_ ?_
    · intro i hi
      simp only [spec_l07Grow_l0_T, Tree.run, ha, lt_nat, inb_nat, hi, wsub1 (show m ≤ 1000 by omega), wsub (show i ≤ m by omega) (show m ≤ 1000 by omega), show m - i < v.length by omega, decide_true, if_true, Int.toNat_natCast, w1 (show i ≤ 1000 by omega), dotN]
    · simp [spec_l07Grow_l0_T, Tree.run, ha]; rfl
  have g2 : ∀ r, spec_l07Grow_l2_g a ((m + 1 : Nat) : Int) r ((0 : Int), ([] : List Nat)) = some (lA a r m) := by
    intro r
    unfold lA
    refine app_gen (T := fun s => (spec_l07Grow_l2_T a ((m + 1 : Nat) : Int) r s).run) ?_ ?_
    · intro i s hi hs
      simp only [spec_l07Grow_l2_T, Tree.run, ha, lt_nat, inb_nat, hi, wsub2 (show 1 ≤ m by omega) (show m ≤ 1000 by omega), wsub (show i ≤ m - 1 by omega) (show m - 1 ≤ 1000 by omega), show m - 1 - i < m by omega, decide_true, if_true, Int.toNat_natCast, w1 (show i ≤ 1000 by omega)]
      rw [if_pos (fitsN (by simp; omega))]
    · intro s; simp [spec_l07Grow_l2_T, Tree.run, ha]
  simp only [spec_l07Grow_g, spec_l07Grow_T, Tree.run, g1, Option.bind_some, inb_nat, hm, decide_true, if_true, Int.toNat_natCast, g2]
  rw [if_pos (fitsN (by simp; omega))]
  rfl
theorem nextI {v a rs : List Nat} {e m : Nat} (h1 : 1 ≤ m) (ha : a.length = m) (hr : rs.length = m) (hm : m + 1 < v.length) (hv : v.length ≤ 12) :
    impl_reflections_next_g a rs e v ((m + 1 : Nat) : Int) = some (fgrt .f32 (nE e (rA v a e m)) 0, nE e (rA v a e m), nA a (rA v a e m) m, rs ++ [rA v a e m]) := by
  have g1 : impl_reflections_next_l0_g a v ((m + 1 : Nat) : Int) ((0 : Nat), (0 : Int)) = some (sA v a m) := by
    refine whileM_fix (T := fun s => (impl_reflections_next_l0_T a v ((m + 1 : Nat) : Int) s).run) (n := m) (fun i => (dotN (fun j => fmul .f32 (nth a j) (nth v (m - j))) i, (i : Int))) ?_ ?_
    · intro i hi
      simp only [impl_reflections_next_l0_T, impl_mul_v, Tree.run, ha, lt_nat, inb_nat, hi, wsub1 (show m ≤ 1000 by omega), wsub (show i ≤ m by omega) (show m ≤ 1000 by omega), show m - i < v.length by omega, decide_true, if_true, Int.toNat_natCast, w1 (show i ≤ 1000 by omega), dotN]
    · simp [impl_reflections_next_l0_T, Tree.run, ha]; rfl
  have g2 : ∀ r, impl_reflections_next_l2_g a ((m + 1 : Nat) : Int) r ((0 : Int), a) = some (lA a r m) := by
    intro r
    unfold lA
    refine each_gen (T := fun s => (impl_reflections_next_l2_T a ((m + 1 : Nat) : Int) r s).run) (fun i y => fsub .f32 y (fmul .f32 r (nth a (m - 1 - i)))) ha ?_ ?_
    · intro i s hi hs
      simp only [impl_reflections_next_l2_T, impl_mul_v, Tree.run, ha, hs, List.nil_append, lt_nat, inb_nat, hi, wsub2 (show 1 ≤ m by omega) (show m ≤ 1000 by omega), wsub (show i ≤ m - 1 by omega) (show m - 1 ≤ 1000 by omega), show m - 1 - i < m by omega, decide_true, if_true, Int.toNat_natCast, w1 (show i ≤ 1000 by omega)]
    · intro s hs; simp [impl_reflections_next_l2_T, Tree.run, ha]
  have g3 : slices_CloneF_g a = some () := by
    simp only [slices_CloneF_g, slices_CloneF_T, Tree.run, List.nil_append, ha, show 0 < m by omega, decide_true, if_true, fitsN (show m ≤ 1000 by omega)]
  simp only [impl_reflections_next_g, impl_reflections_next_T, impl_mul_v, Tree.run, g1, g3, Option.bind_some, inb_nat, hm, decide_true, if_true, Int.toNat_natCast, g2]
  rw [if_pos (fitsN (by simp; omega)), if_pos (fitsN (by simp; omega))]
  rfl
theorem nextI1 {v : List Nat} {e : Nat} (hm : 1 < v.length) : impl_reflections_next_i1_g e v 1 = some (fgrt .f32 (nE e (rA v [] e 0)) 0, nE e (rA v [] e 0)) := by
  have g1 : impl_reflections_next_i1_l0_g () = some () := whileM_inr (T := fun s => (impl_reflections_next_i1_l0_T s).run) (by simp [impl_reflections_next_i1_l0_T, Tree.run])
  have g2 : impl_reflections_next_i1_l2_g () = some () := whileM_inr (T := fun s => (impl_reflections_next_i1_l2_T s).run) (by simp [impl_reflections_next_i1_l2_T, Tree.run])
  have hin : inb (1 : Int) v.length = true := by have := inb_nat 1 v.length; simpa [hm] using this
  simp only [impl_reflections_next_i1_g, impl_reflections_next_i1_T, impl_mul_v, Tree.run, g1, g2, hin, Option.bind_some, if_true]
  rw [if_pos (fitsN (by simp))]
  simp [fitsN (show 1 ≤ 1000 by omega)]
  exact ⟨rfl, rfl⟩
noncomputable def sX (v x : List Nat) (m : Nat) : Nat := dotN (fun j => fmul .f32 (nth x j) (nth v (m + 1 - j))) (m + 1)
noncomputable def lX (x a : List Nat) (q m : Nat) : List Nat := (List.range (m + 1)).map fun j => fsub .f32 (nth x j) (fmul .f32 q (nth a (m - j)))
@[simp] theorem lX_length (x a : List Nat) (q m : Nat) : (lX x a q m).length = m + 1 := by simp [lX]
theorem xI {v x a rs : List Nat} {e m : Nat} (hx : x.length = m + 1) (hm : m + 1 < v.length) (hv : v.length ≤ 12) : impl_ShiftSolve_l2_g v ((m + 1 : Nat) : Int) ((m + 1 : Nat) : Int) e x a rs ((0 : Nat), (0 : Int)) = some (sX v x m) := by
  refine whileM_fix (T := fun s => (impl_ShiftSolve_l2_T v ((m + 1 : Nat) : Int) ((m + 1 : Nat) : Int) e x a rs s).run) (n := m + 1) (fun i => (dotN (fun j => fmul .f32 (nth x j) (nth v (m + 1 - j))) i, (i : Int))) ?_ ?_
  · intro i hi
    simp only [impl_ShiftSolve_l2_T, impl_mul_v, Tree.run, hx, lt_nat, inb_nat, hi, wsub (show i ≤ m + 1 by omega) (show m + 1 ≤ 1000 by omega), show m + 1 - i < v.length by omega, decide_true, if_true, Int.toNat_natCast, w1 (show i ≤ 1000 by omega), dotN]
  · simp [impl_ShiftSolve_l2_T, Tree.run]; rfl
theorem xS {v x a : List Nat} {e m : Nat} (hx : x.length = m + 1) (hm : m + 1 < v.length) (hv : v.length ≤ 12) : spec_ShiftSolve_l2_g v e ((m + 1 : Nat) : Int) ((m + 1 : Nat) : Int) a x ((0 : Nat), (0 : Int)) = some (sX v x m) := by
  refine whileM_fix (T := fun s => (spec_ShiftSolve_l2_T v e ((m + 1 : Nat) : Int) ((m + 1 : Nat) : Int) a x s).run) (n := m + 1) (fun i => (dotN (fun j => fmul .f32 (nth x j) (nth v (m + 1 - j))) i, (i : Int))) ?_ ?_
  · intro i hi
    simp only [spec_ShiftSolve_l2_T, Tree.run, hx, lt_nat, inb_nat, hi, wsub (show i ≤ m + 1 by omega) (show m + 1 ≤ 1000 by omega), show m + 1 - i < v.length by omega, decide_true, if_true, Int.toNat_natCast, w1 (show i ≤ 1000 by omega), dotN]
  · simp [spec_ShiftSolve_l2_T, Tree.run]; rfl
theorem qI {x a rs : List Nat} {e m q : Nat} (hx : x.length = m + 1) (ha : a.length = m + 1) (hm : m ≤ 12) : impl_ShiftSolve_l4_g ((m + 1 : Nat) : Int) q ((m + 1 : Nat) : Int) e a rs ((0 : Int), x) = some (lX x a q m) := by
  refine each_gen (T := fun s => (impl_ShiftSolve_l4_T ((m + 1 : Nat) : Int) q ((m + 1 : Nat) : Int) e a rs s).run) (fun i y => fsub .f32 y (fmul .f32 q (nth a (m - i)))) hx ?_ ?_
  · intro i s hi hs
    simp only [impl_ShiftSolve_l4_T, impl_mul_v, Tree.run, ha, hs, lt_nat, inb_nat, hi, wsub1 (show m ≤ 1000 by omega), wsub (show i ≤ m by omega) (show m ≤ 1000 by omega), show m - i < m + 1 by omega, decide_true, if_true, Int.toNat_natCast, w1 (show i ≤ 1000 by omega)]
  · intro s hs; simp [impl_ShiftSolve_l4_T, Tree.run]
theorem qS {x a : List Nat} {e m q : Nat} (hx : x.length = m + 1) (ha : a.length = m + 1) (hm : m ≤ 12) : spec_ShiftSolve_l4_g e ((m + 1 : Nat) : Int) q ((m + 1 : Nat) : Int) a ((0 : Int), x) = some (lX x a q m) := by
  refine each_gen (T := fun s => (spec_ShiftSolve_l4_T e ((m + 1 : Nat) : Int) q ((m + 1 : Nat) : Int) a s).run) (fun i y => fsub .f32 y (fmul .f32 q (nth a (m - i)))) hx ?_ ?_
  · intro i s hi hs
    simp only [spec_ShiftSolve_l4_T, Tree.run, ha, hs, lt_nat, inb_nat, hi, wsub1 (show m ≤ 1000 by omega), wsub (show i ≤ m by omega) (show m ≤ 1000 by omega), show m - i < m + 1 by omega, decide_true, if_true, Int.toNat_natCast, w1 (show i ≤ 1000 by omega)]
  · intro s hs; simp [spec_ShiftSolve_l4_T, Tree.run]
theorem ssLoop {v b : List Nat} {n : Nat} (hv : v.length = n) (hb : b.length = n) (hn : n ≤ 12) : ∀ (d m e : Nat) (x a rs : List Nat), m + 1 + d = n → 1 ≤ m → a.length = m → rs.length = m → x.length = m + 1 →
    ∃ o, impl_ShiftSolve_l0_g v b (.inr (((m + 1 : Nat) : Int), e, x, a, rs)) = some o ∧ spec_ShiftSolve_l0_g v b (e, ((m + 1 : Nat) : Int), a, x) = some o ∧ ∀ z, o = .inr z → z.length = n := by
  intro d
  induction d with
  | zero =>
    intro m e x a rs hd h1 ha hr hx
    have hk : ¬ m + 1 < n := by omega
    exact ⟨.inr x, whileM_inr (T := fun s => (impl_ShiftSolve_l0_T v b s).run) (by simp only [impl_ShiftSolve_l0_T, Tree.run, hv, lt_nat, hk, decide_false, Bool.false_eq_true, if_false]),
      whileM_inr (T := fun s => (spec_ShiftSolve_l0_T v b s).run) (by simp only [spec_ShiftSolve_l0_T, Tree.run, hv, lt_nat, hk, decide_false, Bool.false_eq_true, if_false]), fun z h => by cases h; omega⟩
  | succ d ih =>
    intro m e x a rs hd h1 ha hr hx
    have hk : m + 1 < n := by omega
    have nI := nextI (e := e) h1 ha hr (show m + 1 < v.length by omega) (by omega)
    have nS := growS (e := e) ha (show m + 1 < v.length by omega) (by omega)
    have hl := nA_length a (rA v a e m) m
    have hl2 : (rs ++ [rA v a e m]).length = m + 1 := by simp [hr]
    generalize nA a (rA v a e m) m = a' at nI nS hl
    generalize rs ++ [rA v a e m] = rs' at nI hl2
    generalize nE e (rA v a e m) = e' at nI nS
    have c1 : decide (a.length ≤ a'.length) = true := decide_eq_true (by omega)
    have c2 : decide (rs.length ≤ rs'.length) = true := decide_eq_true (by omega)
    cases hg : fgrt .f32 e' 0 with
    | false =>
      rw [hg] at nI
      refine ⟨.inl (), whileM_inr (T := fun s => (impl_ShiftSolve_l0_T v b s).run) ?_, whileM_inr (T := fun s => (spec_ShiftSolve_l0_T v b s).run) ?_, fun z h => by cases h⟩
      · simp only [impl_ShiftSolve_l0_T, Tree.run, hv, lt_nat, hk, decide_true, if_true, nI, Option.bind_some, c1, c2, Bool.not_false]
      · simp only [spec_ShiftSolve_l0_T, Tree.run, hv, lt_nat, hk, decide_true, if_true, nS, Option.bind_some, hg, Bool.not_false]
    | true =>
      rw [hg] at nI
      have x1 := xI (e := e') (a := a') (rs := rs') hx (show m + 1 < v.length by omega) (by omega)
      have x2 := xS (e := e') (a := a') hx (show m + 1 < v.length by omega) (by omega)
      generalize sX v x m = y at x1 x2
      have q1 := qI (e := e') (rs := rs') (q := fdiv .f32 (fsub .f32 (nth b (m + 1)) y) e') hx hl (by omega)
      have q2 := qS (e := e') (q := fdiv .f32 (fsub .f32 (nth b (m + 1)) y) e') hx hl (by omega)
      have hll := lX_length x a' (fdiv .f32 (fsub .f32 (nth b (m + 1)) y) e') m
      generalize lX x a' (fdiv .f32 (fsub .f32 (nth b (m + 1)) y) e') m = X at q1 q2 hll
      obtain ⟨o, g1, g2, g3⟩ := ih (m + 1) e' (X ++ [fdiv .f32 (fsub .f32 (nth b (m + 1)) y) e']) a' rs' (by omega) (by omega) hl hl2 (by simp [hll])
      refine ⟨o, whileM_inl (T := fun s => (impl_ShiftSolve_l0_T v b s).run) ?_ g1, whileM_inl (T := fun s => (spec_ShiftSolve_l0_T v b s).run) ?_ g2, g3⟩
      · simp only [impl_ShiftSolve_l0_T, Tree.run, hv, hb, hx, lt_nat, inb_nat, hk, decide_true, if_true, nI, Option.bind_some, c1, c2, Bool.not_true, Bool.false_eq_true, if_false, x1, Int.toNat_natCast, q1, w1 (show m + 1 ≤ 1000 by omega)]
        rw [if_pos (fitsN (by simp [hll]; omega))]
      · simp only [spec_ShiftSolve_l0_T, Tree.run, hv, hb, hx, lt_nat, inb_nat, hk, decide_true, if_true, nS, Option.bind_some, hg, Bool.not_true, Bool.false_eq_true, if_false, x2, Int.toNat_natCast, q2, w1 (show m + 1 ≤ 1000 by omega)]
        rw [if_pos (fitsN (by simp [hll]; omega))]
theorem ssAll {v b : List Nat} {n e : Nat} {x : List Nat} (hv : v.length = n) (hb : b.length = n) (h1 : 1 ≤ n) (hn : n ≤ 12) (hx : x.length = 1) :
    ∃ o, impl_ShiftSolve_l0_g v b (.inl ((1 : Int), e, x)) = some o ∧ spec_ShiftSolve_l0_g v b (e, (1 : Int), ([] : List Nat), x) = some o ∧ ∀ z, o = .inr z → z.length = n := by
  by_cases hk : 1 < n
  case neg =>
    have hk0 : decide ((1 : Int) < (n : Int)) = false := decide_eq_false (by omega)
    exact ⟨.inr x, whileM_inr (T := fun s => (impl_ShiftSolve_l0_T v b s).run) (by simp only [impl_ShiftSolve_l0_T, Tree.run, hv, hk0, Bool.false_eq_true, if_false]),
      whileM_inr (T := fun s => (spec_ShiftSolve_l0_T v b s).run) (by simp only [spec_ShiftSolve_l0_T, Tree.run, hv, hk0, Bool.false_eq_true, if_false]), fun z h => by cases h; omega⟩
  case pos =>
    have hk1 : decide ((1 : Int) < (n : Int)) = true := decide_eq_true (by omega)
    have nI := nextI1 (e := e) (show 1 < v.length by omega)
    have nS : spec_l07Grow_g v [] e (1 : Int) = some (nE e (rA v [] e 0), rA v [] e 0, [rA v [] e 0]) := growS (v := v) (a := []) (e := e) (m := 0) rfl (by omega) (by omega)
    have hr : fdiv .f32 (fsub .f32 (nth v (Int.toNat (1 : Int))) (0 : Nat)) e = rA v [] e 0 := rfl
    generalize nE e (rA v [] e 0) = e' at nI nS
    generalize rA v [] e 0 = r at nS hr
    have hin : inb (1 : Int) n = true := by have := inb_nat 1 n; simpa [hk] using this
    cases hg : fgrt .f32 e' 0 with
    | false =>
      rw [hg] at nI
      refine ⟨.inl (), whileM_inr (T := fun s => (impl_ShiftSolve_l0_T v b s).run) ?_, whileM_inr (T := fun s => (spec_ShiftSolve_l0_T v b s).run) ?_, fun z h => by cases h⟩
      · simp only [impl_ShiftSolve_l0_T, Tree.run, hv, hk1, if_true, nI, Option.bind_some, Bool.not_false]
      · simp only [spec_ShiftSolve_l0_T, Tree.run, hv, hk1, if_true, nS, Option.bind_some, hg, Bool.not_false]
    | true =>
      rw [hg] at nI
      have x1 : impl_ShiftSolve_l2_g v (1 : Int) ((1 : Nat) : Int) e' x [r] [r] ((0 : Nat), (0 : Int)) = some (sX v x 0) := xI (m := 0) (e := e') (a := [r]) (rs := [r]) hx (show 0 + 1 < v.length by omega) (by omega)
      have x2 : spec_ShiftSolve_l2_g v e' (1 : Int) ((1 : Nat) : Int) [r] x ((0 : Nat), (0 : Int)) = some (sX v x 0) := xS (m := 0) (e := e') (a := [r]) hx (show 0 + 1 < v.length by omega) (by omega)
      generalize sX v x 0 = y at x1 x2
      have q1 : impl_ShiftSolve_l4_g (1 : Int) (fdiv .f32 (fsub .f32 (nth b (Int.toNat (1 : Int))) y) e') ((1 : Nat) : Int) e' [r] [r] ((0 : Int), x) = some (lX x [r] (fdiv .f32 (fsub .f32 (nth b (Int.toNat (1 : Int))) y) e') 0) := qI (m := 0) hx rfl (by omega)
      have q2 : spec_ShiftSolve_l4_g e' (1 : Int) (fdiv .f32 (fsub .f32 (nth b (Int.toNat (1 : Int))) y) e') ((1 : Nat) : Int) [r] ((0 : Int), x) = some (lX x [r] (fdiv .f32 (fsub .f32 (nth b (Int.toNat (1 : Int))) y) e') 0) := qS (m := 0) hx rfl (by omega)
      have hll := lX_length x [r] (fdiv .f32 (fsub .f32 (nth b (Int.toNat (1 : Int))) y) e') 0
      generalize lX x [r] (fdiv .f32 (fsub .f32 (nth b (Int.toNat (1 : Int))) y) e') 0 = X at q1 q2 hll
      obtain ⟨o, g1, g2, g3⟩ := ssLoop hv hb hn (n - 2) 1 e' (X ++ [fdiv .f32 (fsub .f32 (nth b (Int.toNat (1 : Int))) y) e']) [r] [r] (by omega) (by omega) rfl rfl (by simp [hll])
      have w2 : IntKind.i64.wrap ((1 : Int) + 1) = ((1 + 1 : Nat) : Int) := by rw [w64 (by omega) (by omega)]; rfl
      refine ⟨o, whileM_inl (T := fun s => (impl_ShiftSolve_l0_T v b s).run) ?_ g1, whileM_inl (T := fun s => (spec_ShiftSolve_l0_T v b s).run) ?_ g2, g3⟩
      · simp only [impl_ShiftSolve_l0_T, Tree.run, hv, hb, hx, hk1, hin, hr, if_true, nI, Option.bind_some, Bool.not_true, Bool.false_eq_true, if_false, x1, q1, w2]
        rw [if_pos (fitsN (by simp [hll]))]
      · simp only [spec_ShiftSolve_l0_T, Tree.run, hv, hb, hx, hk1, hin, if_true, nS, Option.bind_some, hg, Bool.not_true, Bool.false_eq_true, if_false, x2, q2, w2]
        rw [if_pos (fitsN (by simp [hll]))]
theorem ss_both (v b : List Nat) (hv : v.length ≤ maxN) (hb : b.length ≤ maxN) : ∃ o, impl_ShiftSolve_g v b = some o ∧ spec_ShiftSolve_g v b = some o ∧ ∀ d, o = .inr d → d.length ≤ 144 := by
  have lI := isListI v 12 hv
  have sV := shortS v hv
  have sB := shortS b hb
  have aB := areFin b hb
  cases hc : (decide (1 ≤ (v.length : Int)) && decide ((v.length : Int) ≤ 12) && v.all sfin) with
  | false =>
    rw [hc] at lI sV
    exact ⟨.inl (), by simp [impl_ShiftSolve_g, impl_ShiftSolve_T, impl_isShiftList_g, impl_isShiftList_T, Tree.run, lI], by simp [spec_ShiftSolve_g, spec_ShiftSolve_T, Tree.run, sV], fun d h => by cases h⟩
  | true =>
  rw [hc] at lI sV
  have hc' := hc
  simp only [Bool.and_eq_true, decide_eq_true_eq] at hc'
  obtain ⟨⟨h1, h12⟩, hf⟩ := hc'
  have h1 : 1 ≤ v.length := by omega
  have h12 : v.length ≤ 12 := by omega
  have hin : inb (0 : Int) v.length = true := by have := inb_nat 0 v.length; simpa [show 0 < v.length by omega] using this
  have hs : impl_isShiftList_g v = some (fgrt .f32 (nth v (Int.toNat (0 : Int))) 0) := by
    simp only [impl_isShiftList_g, impl_isShiftList_T, Tree.run, lI, Option.bind_some, if_true, hin]
  by_cases hl : b.length = v.length
  case neg =>
    have dI : decide ((b.length : Int) = (v.length : Int)) = false := decide_eq_false (by omega)
    have dS : decide ((v.length : Int) = (b.length : Int)) = false := decide_eq_false (by omega)
    refine ⟨.inl (), ?_, ?_, fun d h => by cases h⟩
    · simp only [impl_ShiftSolve_g, impl_ShiftSolve_T, Tree.run, hs, Option.bind_some, dI, Bool.not_false, if_true]
      split <;> rfl
    · simp only [spec_ShiftSolve_g, spec_ShiftSolve_T, Tree.run, sV, sB, Option.bind_some, dS, Bool.not_false, Bool.not_true, Bool.false_eq_true, if_false, if_true]
      split <;> rfl
  case pos =>
  have dI : decide ((b.length : Int) = (v.length : Int)) = true := decide_eq_true (by omega)
  have dS : decide ((v.length : Int) = (b.length : Int)) = true := decide_eq_true (by omega)
  have e1 : decide (1 ≤ (b.length : Int)) = true := decide_eq_true (by omega)
  have e2 : decide ((b.length : Int) ≤ 12) = true := decide_eq_true (by omega)
  rw [e1, e2, Bool.true_and, Bool.true_and] at sB
  cases hbf : b.all sfin with
  | false =>
    rw [hbf] at aB sB
    refine ⟨.inl (), ?_, ?_, fun d h => by cases h⟩
    · simp only [impl_ShiftSolve_g, impl_ShiftSolve_T, Tree.run, hs, Option.bind_some, dI, aB, Bool.not_false, Bool.not_true, Bool.false_eq_true, if_false, if_true]
      split <;> rfl
    · simp only [spec_ShiftSolve_g, spec_ShiftSolve_T, Tree.run, sV, sB, Option.bind_some, Bool.not_false, Bool.not_true, Bool.false_eq_true, if_false, if_true]
  | true =>
  rw [hbf] at aB sB
  cases hp : fgrt .f32 (nth v (Int.toNat (0 : Int))) 0 with
  | false =>
    rw [hp] at hs
    refine ⟨.inl (), ?_, ?_, fun d h => by cases h⟩
    · simp only [impl_ShiftSolve_g, impl_ShiftSolve_T, Tree.run, hs, Option.bind_some, Bool.not_false, if_true]
    · simp only [spec_ShiftSolve_g, spec_ShiftSolve_T, Tree.run, sV, sB, dS, hin, hp, Option.bind_some, Bool.not_false, Bool.not_true, Bool.false_eq_true, if_false, if_true]
  | true =>
  rw [hp] at hs
  have hinb : inb (0 : Int) b.length = true := by rw [hl]; exact hin
  obtain ⟨o, g1, g2, g3⟩ := ssAll (v := v) (b := b) (e := nth v (Int.toNat (0 : Int))) (x := [fdiv .f32 (nth b (Int.toNat (0 : Int))) (nth v (Int.toNat (0 : Int)))]) rfl hl h1 h12 rfl
  cases o with
  | inl u =>
    refine ⟨.inl (), ?_, ?_, fun d h => by cases h⟩
    · simp only [impl_ShiftSolve_g, impl_ShiftSolve_T, Tree.run, hs, Option.bind_some, dI, aB, hin, hinb, g1, Bool.not_false, Bool.not_true, Bool.false_eq_true, if_false, if_true]
    · simp only [spec_ShiftSolve_g, spec_ShiftSolve_T, Tree.run, sV, sB, dS, hin, hinb, hp, g2, Option.bind_some, Bool.not_false, Bool.not_true, Bool.false_eq_true, if_false, if_true]
  | inr z =>
    have hz := g3 z rfl
    have zI := allFinI z (by unfold maxN; omega)
    have zS := listS z (by unfold maxN; omega)
    refine ⟨if z.all sfin = true then .inr z else .inl (), ?_, ?_, ?_⟩
    · simp only [impl_ShiftSolve_g, impl_ShiftSolve_T, Tree.run, hs, Option.bind_some, dI, aB, hin, hinb, g1, zI, Bool.not_false, Bool.not_true, Bool.false_eq_true, if_false, if_true]
      split <;> simp [Tree.run]
    · simp only [spec_ShiftSolve_g, spec_ShiftSolve_T, Tree.run, sV, sB, dS, hin, hinb, hp, g2, zS, Option.bind_some, Bool.not_false, Bool.not_true, Bool.false_eq_true, if_false, if_true]
      split <;> simp [Tree.run]
    · intro d h
      split at h
      · cases h; omega
      · cases h
theorem ss_law (x0 : List Nat) (x1 : List Nat) (h0 : x0.length ≤ maxN) (h1 : x1.length ≤ maxN) : laws_FnExactShiftSolve_g x0 x1 = some true := by
  have q0 := h0
  have q1 := h1
  unfold maxN at q0 q1
  obtain ⟨r, i1, i2, i3⟩ := ss_both x0 x1 h0 h1
  have en := eqF_self [] (by simp [maxN])
  have hn := held_nil 1 (by omega) (by omega)
  have m0 := mark_ok x0 (1) h0 (by omega) (by omega)
  have m1 := mark_ok x1 (1 + x0.length) h1 (by omega) (by omega)
  have g1 : decide (((1 : Int) + x0.length + x1.length : Int) < 0) = false := by simp; omega
  by_cases c0 : (1048576 : Int) < x0.length
  · simp [laws_FnExactShiftSolve_g, laws_FnExactShiftSolve_T, Tree.run, c0]
  by_cases c1 : (1048576 : Int) < x1.length
  · simp [laws_FnExactShiftSolve_g, laws_FnExactShiftSolve_T, Tree.run, c0, c1]
  have d0 : decide ((1048576 : Int) < x0.length) = false := by simpa using c0
  have d1 : decide ((1048576 : Int) < x1.length) = false := by simpa using c1
  cases r with
  | inl u =>
    simp only [laws_FnExactShiftSolve_g, laws_FnExactShiftSolve_T, Tree.run, i1, i2, en, hn, mark_nil, m0, toF_ok x0 h0, eqF_self x0 h0, m1, toF_ok x1 h1, eqF_self x1 h1, g1, d0, d1, Option.bind_some, Bool.false_eq_true, if_false, if_true, decide_true, Bool.not_true, Bool.not_false, beq_self_eq_true, marks_length]
    first | done | simp [Tree.run]
  | inr d0_ =>
    have hd := i3 _ rfl
    have e0 := hd
    have hd0 : d0_.length ≤ maxN := by unfold maxN; omega
    have md0 := mark_ok d0_ (1) hd0 (by omega) (by omega)
    have hl0 := held_ok (1) d0_.length hd0 (by omega) (by omega)
    have g20 : decide (((1 : Int) + d0_.length : Int) < 0) = false := by simp; omega
    simp only [laws_FnExactShiftSolve_g, laws_FnExactShiftSolve_T, Tree.run, i1, i2, en, hn, mark_nil, m0, toF_ok x0 h0, eqF_self x0 h0, m1, toF_ok x1 h1, eqF_self x1 h1, g1, d0, d1, md0, hl0, g20, eqF_self d0_ hd0, Option.bind_some, Bool.false_eq_true, if_false, if_true, decide_true, Bool.not_true, Bool.not_false, beq_self_eq_true, marks_length]
    first | done | simp [Tree.run]
theorem ss_lawL (x0 : Nat) (x1 : Nat) (h0 : x0 < 9223372036854775808) (h1 : x1 < 9223372036854775808) (big : maxN < x0 ∨ maxN < x1) : laws_FnExactShiftSolve_len_g x0 x1 = some true := by
  unfold maxN at big
  by_cases c0 : (1048576 : Int) < (x0 : Int)
  · simp [laws_FnExactShiftSolve_len_g, laws_FnExactShiftSolve_len_T, Tree.run, c0]
  by_cases c1 : (1048576 : Int) < (x1 : Int)
  · simp [laws_FnExactShiftSolve_len_g, laws_FnExactShiftSolve_len_T, Tree.run, c0, c1]
  omega
end Go.Proofs.Ytooakheodgndaaa.AM
