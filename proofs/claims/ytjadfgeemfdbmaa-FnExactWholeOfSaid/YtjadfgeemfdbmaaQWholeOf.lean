/- The law WholeOf: both sides, and the law. -/
import Derived.Test.YtjadfgeemfdbmaaWH0
import Derived.Test.YtjadfgeemfdbmaaD26
set_option linter.unusedSimpArgs false
set_option linter.unusedVariables false
set_option maxHeartbeats 1000000
namespace Go.Proofs.Ytjadfgeemfdbmaa.AM

theorem wj_inl {σ ρ : Type} {T : σ → Option (σ ⊕ ρ)} {s s' : σ} {r : Option ρ} (h : T s = some (.inl s')) (h' : whileM T s' = r) : whileM T s = r := by rw [whileM_eq, h]; exact h'
theorem wj_inr {σ ρ : Type} {T : σ → Option (σ ⊕ ρ)} {s : σ} {r : ρ} (h : T s = some (.inr r)) : whileM T s = some r := by rw [whileM_eq, h]
theorem wo_all {M : List Nat} (h : M.all sfin = true) : ∀ j, j < M.length → sfin (nth M j) = true := fun j hj => by
  rw [nth_of _ _ hj]
  exact List.all_eq_true.1 h _ (List.getElem_mem hj)
def vl (x y : Nat) : Nat := flo (wid (fadd .f32 (fmul .f32 x y) 1056964608))
theorem flG {x y : Nat} (hx : sfin x = true) (hy : sfin y = true) : math_Floor_g (wid (fadd .f32 (fmul .f32 x y) 1056964608)) = some (vl x y) := by
  simp only [math_Floor_g, math_Floor_T, Tree.run, whole_num hx hy, Bool.not_false, if_true]
  rfl
/-- What both do with one number. -/
theorem oneB {x y : Nat} (hx : sfin x = true) (hy : sfin y = true) :
    ((fless .f64 (fabs (vl x y)) 4696837146684686336 || feq .f64 (fabs (vl x y)) 4696837146684686336) = false ∧
      ((fgrt .f64 (vl x y) 13920209183539462144 || feq .f64 (vl x y) 13920209183539462144) = false ∨ ((fgrt .f64 (vl x y) 13920209183539462144 || feq .f64 (vl x y) 13920209183539462144) = true ∧ (fless .f64 (vl x y) 4696837146684686336 || feq .f64 (vl x y) 4696837146684686336) = false))) ∨
    ((fless .f64 (fabs (vl x y)) 4696837146684686336 || feq .f64 (fabs (vl x y)) 4696837146684686336) = true ∧ (fgrt .f64 (vl x y) 13920209183539462144 || feq .f64 (vl x y) 13920209183539462144) = true ∧ (fless .f64 (vl x y) 4696837146684686336 || feq .f64 (vl x y) 4696837146684686336) = true ∧
      ∃ k, ftoint .f64 (vl x y) .i64 = some k ∧ -1000000 ≤ k ∧ k ≤ 1000000) := by
  have hn : isNan .f64 (vl x y) = false := flo_num (whole_num hx hy)
  have lt := low_test hn
  have li := low_int hn
  generalize vl x y = v at hn lt li ⊢
  have ld : lowB v = (fless .f64 (fabs v) 4696837146684686336 || feq .f64 (fabs v) 4696837146684686336) := rfl
  rw [← ld]
  cases hA : (fgrt .f64 v 13920209183539462144 || feq .f64 v 13920209183539462144) with
  | false =>
    rw [hA, Bool.false_and] at lt
    exact .inl ⟨lt, .inl rfl⟩
  | true =>
    rw [hA, Bool.true_and] at lt
    cases hB : (fless .f64 v 4696837146684686336 || feq .f64 v 4696837146684686336) with
    | false =>
      rw [hB] at lt
      exact .inl ⟨lt, .inr ⟨rfl, rfl⟩⟩
    | true =>
      rw [hB] at lt
      exact .inr ⟨lt, rfl, rfl, li lt⟩
section
variable {M : List Nat} {y : Nat}
theorem whLoop (hM : M.all sfin = true) (hy : sfin y = true) (hl : M.length ≤ 144) : ∀ (d i : Nat) (acc : List Int), i + d = M.length → acc.length = i → bndB 1000000 acc = true →
    (impl_WholeOf_l0_g M y (.inr ((i : Int), acc)) = some (.inl ()) ∧ spec_WholeOf_l0_g M y (.inr ((i : Int), acc)) = some (.inl ())) ∨
    ∃ L, impl_WholeOf_l0_g M y (.inr ((i : Int), acc)) = some (.inr (.inr L)) ∧ spec_WholeOf_l0_g M y (.inr ((i : Int), acc)) = some (.inr (.inr L)) ∧ L.length = M.length ∧ bndB 1000000 L = true := by
  intro d
  induction d with
  | zero =>
    intro i acc hi ha hb
    have k0 : decide ((i : Int) < ((M.length : Nat) : Int)) = false := decide_eq_false (by omega)
    refine .inr ⟨acc, wj_inr (T := fun s => (impl_WholeOf_l0_T M y s).run) ?_, wj_inr (T := fun s => (spec_WholeOf_l0_T M y s).run) ?_, by omega, hb⟩
    · simp only [impl_WholeOf_l0_T, Tree.run, k0, Bool.false_eq_true, if_false]
    · simp only [spec_WholeOf_l0_T, Tree.run, k0, Bool.false_eq_true, if_false]
  | succ d ih =>
    intro i acc hi ha hb
    have k0 : decide ((i : Int) < ((M.length : Nat) : Int)) = true := decide_eq_true (by omega)
    have k1 : inb (i : Int) M.length = true := inb_iff.2 ⟨by omega, by omega⟩
    have hx := wo_all hM i (by omega)
    have fG := flG hx hy
    rcases oneB hx hy with ⟨t1, t2 | ⟨t2, t3⟩⟩ | ⟨t1, t2, t3, k, hk, kb⟩
    · refine .inl ⟨wj_inr (T := fun s => (impl_WholeOf_l0_T M y s).run) ?_, wj_inr (T := fun s => (spec_WholeOf_l0_T M y s).run) ?_⟩
      · simp only [impl_WholeOf_l0_T, impl_mul_v, Tree.run, k0, k1, Int.toNat_natCast, fG, t1, Option.bind_some, Bool.not_false, if_true]
      · simp only [spec_WholeOf_l0_T, Tree.run, k0, k1, Int.toNat_natCast, fG, t2, Option.bind_some, Bool.false_eq_true, if_false, if_true]
    · refine .inl ⟨wj_inr (T := fun s => (impl_WholeOf_l0_T M y s).run) ?_, wj_inr (T := fun s => (spec_WholeOf_l0_T M y s).run) ?_⟩
      · simp only [impl_WholeOf_l0_T, impl_mul_v, Tree.run, k0, k1, Int.toNat_natCast, fG, t1, Option.bind_some, Bool.not_false, if_true]
      · simp only [spec_WholeOf_l0_T, Tree.run, k0, k1, Int.toNat_natCast, fG, t2, t3, Option.bind_some, Bool.not_false, if_true]
    · have hf : fits (acc ++ [k]).length = true := fitsN (by simp; omega)
      have hb2 : bndB 1000000 (acc ++ [k]) = true := by
        unfold bndB at hb ⊢
        rw [List.all_append, hb]
        simp
        omega
      have sI : (impl_WholeOf_l0_T M y (.inr ((i : Int), acc))).run = some (.inl (.inr (((i + 1 : Nat) : Int), acc ++ [k]))) := by
        simp only [impl_WholeOf_l0_T, impl_mul_v, Tree.run, k0, k1, Int.toNat_natCast, fG, t1, hk, hf, Option.bind_some, Bool.not_true, Bool.false_eq_true, if_false, if_true, w1 (show i ≤ 1000 by omega)]
      have sS : (spec_WholeOf_l0_T M y (.inr ((i : Int), acc))).run = some (.inl (.inr (((i + 1 : Nat) : Int), acc ++ [k]))) := by
        simp only [spec_WholeOf_l0_T, Tree.run, k0, k1, Int.toNat_natCast, fG, t2, t3, hk, hf, Option.bind_some, Bool.not_true, Bool.false_eq_true, if_false, if_true, w1 (show i ≤ 1000 by omega)]
      rcases ih (i + 1) (acc ++ [k]) (by omega) (by simp [ha]) hb2 with ⟨g1, g2⟩ | ⟨L, g1, g2, g3⟩
      · exact .inl ⟨wj_inl (T := fun s => (impl_WholeOf_l0_T M y s).run) sI g1, wj_inl (T := fun s => (spec_WholeOf_l0_T M y s).run) sS g2⟩
      · exact .inr ⟨L, wj_inl (T := fun s => (impl_WholeOf_l0_T M y s).run) sI g1, wj_inl (T := fun s => (spec_WholeOf_l0_T M y s).run) sS g2, g3⟩
theorem whFirst (hM : M.all sfin = true) (hy : sfin y = true) (hl : M.length ≤ 144) (h1 : 1 ≤ M.length) :
    (impl_WholeOf_l0_g M y (.inl (0 : Int)) = some (.inl ()) ∧ spec_WholeOf_l0_g M y (.inl (0 : Int)) = some (.inl ())) ∨
    ∃ L, impl_WholeOf_l0_g M y (.inl (0 : Int)) = some (.inr (.inr L)) ∧ spec_WholeOf_l0_g M y (.inl (0 : Int)) = some (.inr (.inr L)) ∧ L.length = M.length ∧ bndB 1000000 L = true := by
  have k0 : decide ((0 : Int) < ((M.length : Nat) : Int)) = true := decide_eq_true (by omega)
  have k1 : inb (0 : Int) M.length = true := inb_iff.2 ⟨by omega, by omega⟩
  have hx := wo_all hM 0 (by omega)
  have e0 : Int.toNat (0 : Int) = 0 := rfl
  have fG := flG hx hy
  rcases oneB hx hy with ⟨t1, t2 | ⟨t2, t3⟩⟩ | ⟨t1, t2, t3, k, hk, kb⟩
  · refine .inl ⟨wj_inr (T := fun s => (impl_WholeOf_l0_T M y s).run) ?_, wj_inr (T := fun s => (spec_WholeOf_l0_T M y s).run) ?_⟩
    · simp only [impl_WholeOf_l0_T, impl_mul_v, Tree.run, k0, k1, e0, fG, t1, Option.bind_some, Bool.not_false, if_true]
    · simp only [spec_WholeOf_l0_T, Tree.run, k0, k1, e0, fG, t2, Option.bind_some, Bool.false_eq_true, if_false, if_true]
  · refine .inl ⟨wj_inr (T := fun s => (impl_WholeOf_l0_T M y s).run) ?_, wj_inr (T := fun s => (spec_WholeOf_l0_T M y s).run) ?_⟩
    · simp only [impl_WholeOf_l0_T, impl_mul_v, Tree.run, k0, k1, e0, fG, t1, Option.bind_some, Bool.not_false, if_true]
    · simp only [spec_WholeOf_l0_T, Tree.run, k0, k1, e0, fG, t2, t3, Option.bind_some, Bool.not_false, if_true]
  · have hf : fits ([k] : List Int).length = true := rfl
    have hz : decide (([k] : List Int).length = 0) = false := rfl
    have hb2 : bndB 1000000 [k] = true := by
      unfold bndB
      simp
      omega
    have e1 : IntKind.i64.wrap ((0 : Int) + 1) = ((1 : Nat) : Int) := rfl
    have sI : (impl_WholeOf_l0_T M y (.inl (0 : Int))).run = some (.inl (.inr (((1 : Nat) : Int), [k]))) := by
      simp only [impl_WholeOf_l0_T, impl_mul_v, Tree.run, k0, k1, e0, fG, t1, hk, hf, hz, e1, Option.bind_some, Bool.not_true, Bool.false_eq_true, if_false, if_true]
    have sS : (spec_WholeOf_l0_T M y (.inl (0 : Int))).run = some (.inl (.inr (((1 : Nat) : Int), [k]))) := by
      simp only [spec_WholeOf_l0_T, Tree.run, k0, k1, e0, fG, t2, t3, hk, hf, hz, e1, Option.bind_some, Bool.not_true, Bool.false_eq_true, if_false, if_true]
    rcases whLoop hM hy hl (M.length - 1) 1 [k] (by omega) rfl hb2 with ⟨g1, g2⟩ | ⟨L, g1, g2, g3⟩
    · exact .inl ⟨wj_inl (T := fun s => (impl_WholeOf_l0_T M y s).run) sI g1, wj_inl (T := fun s => (spec_WholeOf_l0_T M y s).run) sS g2⟩
    · exact .inr ⟨L, wj_inl (T := fun s => (impl_WholeOf_l0_T M y s).run) sI g1, wj_inl (T := fun s => (spec_WholeOf_l0_T M y s).run) sS g2, g3⟩
end
theorem wo_both (x0 x1 : Int) (x2 : List Nat) (x3 : Nat) (h2 : x2.length ≤ maxN) :
    (impl_WholeOf_g x0 x1 x2 x3 = some (.inl ()) ∧ spec_WholeOf_g x0 x1 x2 x3 = some (.inl ())) ∨
    ∃ L, impl_WholeOf_g x0 x1 x2 x3 = some (.inr (.inr (x0, x1, L))) ∧ spec_WholeOf_g x0 x1 x2 x3 = some (.inr (.inr (x0, x1, L))) ∧ L.length ≤ 1024 := by
  have vI := vmI x0 x1 x2 h2
  have vS := vmS x0 x1 x2 h2
  have fI : impl_IsFinite_v x3 = sfin x3 := finI x3
  have fS : spec_l01Finite_v x3 = sfin x3 := rfl
  cases hv : vm x0 x1 x2 with
  | false =>
    rw [hv] at vI vS
    exact .inl ⟨by simp only [impl_WholeOf_g, impl_WholeOf_T, Tree.run, vI, Option.bind_some, Bool.not_false, if_true], by simp only [spec_WholeOf_g, spec_WholeOf_T, Tree.run, vS, Option.bind_some, Bool.not_false, if_true]⟩
  | true =>
  rw [hv] at vI vS
  cases hy : sfin x3 with
  | false =>
    rw [hy] at fI fS
    exact .inl ⟨by simp only [impl_WholeOf_g, impl_WholeOf_T, Tree.run, vI, fI, Option.bind_some, Bool.not_true, Bool.not_false, Bool.false_eq_true, if_false, if_true], by simp only [spec_WholeOf_g, spec_WholeOf_T, Tree.run, vS, fS, Option.bind_some, Bool.not_true, Bool.not_false, Bool.false_eq_true, if_false, if_true]⟩
  | true =>
  rw [hy] at fI fS
  obtain ⟨n, m, rfl, rfl, n1, n2, m1, m2, hl, hf⟩ := vm_shape hv
  have hb := le144 n2 m2
  have hpos : 1 ≤ x2.length := by rw [hl]; exact Nat.mul_pos n1 m1
  have r1 : impl_inRange_v (n : Int) 1 6 = decide (n ≤ 6) := by
    unfold impl_inRange_v
    by_cases b : n ≤ 6
    · rw [decide_eq_true b, decide_eq_true (show (1 : Int) ≤ (n : Int) by omega), decide_eq_true (show (n : Int) ≤ 6 by omega)]; rfl
    · rw [decide_eq_false b, decide_eq_true (show (1 : Int) ≤ (n : Int) by omega), decide_eq_false (show ¬ (n : Int) ≤ 6 by omega)]; rfl
  have r2 : impl_inRange_v (m : Int) 1 6 = decide (m ≤ 6) := by
    unfold impl_inRange_v
    by_cases b : m ≤ 6
    · rw [decide_eq_true b, decide_eq_true (show (1 : Int) ≤ (m : Int) by omega), decide_eq_true (show (m : Int) ≤ 6 by omega)]; rfl
    · rw [decide_eq_false b, decide_eq_true (show (1 : Int) ≤ (m : Int) by omega), decide_eq_false (show ¬ (m : Int) ≤ 6 by omega)]; rfl
  by_cases hnm : n ≤ 6 ∧ m ≤ 6
  · obtain ⟨hn6, hm6⟩ := hnm
    rw [decide_eq_true hn6] at r1
    rw [decide_eq_true hm6] at r2
    rcases whFirst hf hy (by omega) hpos with ⟨g1, g2⟩ | ⟨L, g1, g2, g3, g4⟩
    · exact .inl ⟨by simp only [impl_WholeOf_g, impl_WholeOf_T, Tree.run, vI, fI, r1, r2, g1, Option.bind_some, Bool.not_true, Bool.false_eq_true, if_false, if_true], by simp only [spec_WholeOf_g, spec_WholeOf_T, Tree.run, vS, fS, g2, Option.bind_some, Bool.not_true, Bool.false_eq_true, if_false, if_true]⟩
    · have w := whS 1000000 n m L (by unfold maxN; omega) (by omega) (by omega)
      rw [wh_nat n1 hn6 m1 hm6 (by omega), g4] at w
      have gv : spec_l06Give_g n m L = some (.inr ((n : Int), (m : Int))) := by
        simp only [spec_l06Give_g, spec_l06Give_T, Tree.run, w, Option.bind_some, Bool.not_true, Bool.false_eq_true, if_false]
      exact .inr ⟨L, by simp only [impl_WholeOf_g, impl_WholeOf_T, Tree.run, vI, fI, r1, r2, g1, Option.bind_some, Bool.not_true, Bool.false_eq_true, if_false, if_true], by simp only [spec_WholeOf_g, spec_WholeOf_T, Tree.run, vS, fS, g2, gv, Option.bind_some, Bool.not_true, Bool.false_eq_true, if_false, if_true], by omega⟩
  · have iI : impl_WholeOf_g n m x2 x3 = some (.inl ()) := by
      by_cases hn6 : n ≤ 6
      · have hm6 : ¬ m ≤ 6 := fun h => hnm ⟨hn6, h⟩
        rw [decide_eq_true hn6] at r1
        rw [decide_eq_false hm6] at r2
        simp only [impl_WholeOf_g, impl_WholeOf_T, Tree.run, vI, fI, r1, r2, Option.bind_some, Bool.not_true, Bool.not_false, Bool.false_eq_true, if_false, if_true]
      · rw [decide_eq_false hn6] at r1
        simp only [impl_WholeOf_g, impl_WholeOf_T, Tree.run, vI, fI, r1, Option.bind_some, Bool.not_true, Bool.not_false, Bool.false_eq_true, if_false, if_true]
    refine .inl ⟨iI, ?_⟩
    rcases whFirst hf hy (by omega) hpos with ⟨g1, g2⟩ | ⟨L, g1, g2, g3, g4⟩
    · simp only [spec_WholeOf_g, spec_WholeOf_T, Tree.run, vS, fS, g2, Option.bind_some, Bool.not_true, Bool.false_eq_true, if_false, if_true]
    · have w := whS 1000000 n m L (by unfold maxN; omega) (by omega) (by omega)
      have wf : whB 1000000 n m L = false := by
        cases hw : whB 1000000 n m L with
        | false => rfl
        | true =>
          obtain ⟨a, b, ea, eb, _, a6, _, b6, _⟩ := wh_shape hw
          exact absurd ⟨by omega, by omega⟩ hnm
      rw [wf] at w
      have gv : spec_l06Give_g n m L = some (.inl ()) := by
        simp only [spec_l06Give_g, spec_l06Give_T, Tree.run, w, Option.bind_some, Bool.not_false, if_true]
      simp only [spec_WholeOf_g, spec_WholeOf_T, Tree.run, vS, fS, g2, gv, Option.bind_some, Bool.not_true, Bool.false_eq_true, if_false, if_true]
theorem wo_law (x0 : Int) (x1 : Int) (x2 : List Nat) (x3 : Nat) (h0 : -9223372036854775808 ≤ x0 ∧ x0 < 9223372036854775808) (h1 : -9223372036854775808 ≤ x1 ∧ x1 < 9223372036854775808) (h2 : x2.length ≤ maxN) : laws_FnExactWholeOf_g x0 x1 x2 x3 = some true := by
  have q2 := h2
  unfold maxN at q2
  have enM := eqW_self 0 0 [] (by simp [maxN])
  have hnM := heldW_nil 1 (by omega) (by omega)
  have m0 := markM_ok x2 (1) h2 (by omega) (by omega)
  have g1 : decide (((1 : Int) + x2.length : Int) < 0) = false := by simp; omega
  cases z0 : decide (laws_szMatrix_v x2 (1048576) < 0)
  case true => simp only [laws_FnExactWholeOf_g, laws_FnExactWholeOf_T, Tree.run, z0, decide_false, Bool.false_eq_true, if_false, if_true] <;> simp [Tree.run, z0]
  rcases wo_both x0 x1 x2 x3 h2 with ⟨i1, i2⟩ | ⟨d0_, i1, i2, e0⟩
  · simp only [laws_FnExactWholeOf_g, laws_FnExactWholeOf_T, Tree.run, i1, i2, enM, hnM, markW_nil, m0, toM_ok x0 x1 x2 h2, eqM_self x0 x1 x2 h2, g1, z0, Option.bind_some, Bool.false_eq_true, if_false, if_true, decide_true, Bool.not_true, Bool.not_false, beq_self_eq_true, marks_length, marksI_length]
    first | done | simp [Tree.run]
  · have hd0 : d0_.length ≤ maxN := by unfold maxN; omega
    have md0 := markW_ok d0_ (1) hd0 (by omega) (by omega)
    have hl0 := heldW_ok (1) d0_.length hd0 (by omega) (by omega)
    have g20 : decide (((1 : Int) + d0_.length : Int) < 0) = false := by simp; omega
    simp only [laws_FnExactWholeOf_g, laws_FnExactWholeOf_T, Tree.run, i1, i2, enM, hnM, markW_nil, m0, toM_ok x0 x1 x2 h2, eqM_self x0 x1 x2 h2, g1, z0, md0, hl0, g20, eqW_self x0 x1 d0_ hd0, Option.bind_some, Bool.false_eq_true, if_false, if_true, decide_true, Bool.not_true, Bool.not_false, beq_self_eq_true, marks_length, marksI_length]
    first | done | simp [Tree.run]
theorem wo_lawL (x0 : Int) (x1 : Int) (x2 : Nat) (x3 : Nat) (h0 : -9223372036854775808 ≤ x0 ∧ x0 < 9223372036854775808) (h1 : -9223372036854775808 ≤ x1 ∧ x1 < 9223372036854775808) (h2 : x2 < 9223372036854775808) (big : maxN < x2) : laws_FnExactWholeOf_len_g x2 = some true := by
  have big0 := big
  unfold maxN at big
  have e := szM_len1 x2 (1048576) h2 (by omega) (by omega) (by omega)
  simp [laws_FnExactWholeOf_len_g, laws_FnExactWholeOf_len_T, Tree.run, e]
end Go.Proofs.Ytjadfgeemfdbmaa.AM
