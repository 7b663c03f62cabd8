/- Mirrors: the factor. -/
import Derived.Test.YtflodniglbgkhaaM2
set_option linter.unusedSimpArgs false
set_option linter.unusedVariables false
namespace Go.Proofs.Ytflodniglbgkhaa.AM

theorem mir4 {n m k : Nat} (c : Int) (A q v R : List Nat) (hk : k < m) (hn : n ≤ 12) (hm : m ≤ 12) (hq : q.length = n * m) (hv : v.length = n) (hR : R.length = m * m) :
    ∃ r, spec_l03Mirror_l4_g n m A k c n m m m q ((0 : Int), v, R) = some r ∧ impl_MirrorFactor_l4_g k c n m m m q ((0 : Int), v, R) = some r ∧ r.1.length = n ∧ r.2.length = m * m := by
  refine for2 (T := fun s => (spec_l03Mirror_l4_T n m A k c n m m m q s).run) (T' := fun s => (impl_MirrorFactor_l4_T k c n m m m q s).run) (n := k) (s := (v, R)) (fun _ s => s.1.length = n ∧ s.2.length = m * m) (fun r => r.1.length = n ∧ r.2.length = m * m) ⟨hv, hR⟩ ?_ ?_
  · rintro j ⟨v, R⟩ hj ⟨hv, hR⟩
    simp only at hv hR
    have hjm : j < m := by omega
    have cS := col3S hjm hn hm hq
    have cI := colI hjm hn hm hq
    have hw := colL_length n m q j
    generalize colL n m q j = w at cS cI hw
    have dS := dotS w v (by omega) (by unfold maxN; omega)
    have dI := dotI w v (by omega) (by unfold maxN; omega)
    generalize dotN (fun i => fmul .f32 (nth w i) (nth v i)) w.length = x at dS dI
    have aS := atS hjm hk hm hm hR
    have aI := atI hjm hk hm hm hR
    have eS := setR hjm hk hm hm hR
    have hlt : j * m + k < R.length := by rw [hR]; exact rc_lt hjm hk
    have lI := lessI2 x v w (by omega) (by omega)
    have lS : ∀ (R' : List Nat), spec_l03Mirror_l6_g k c j x ((v.length : Nat) : Int) n m m m w q R' ((0 : Int), v) = some (lessL x v w) := fun R' => lessI0 x v w (by omega) (by omega)
    refine .inl ⟨(lessL x v w, R.set (j * m + k) (fadd .f32 (nth R (j * m + k)) x)), ?_, ?_, by simp [hv], by simp [hR]⟩
    · simp only [spec_l03Mirror_l4_T, Tree.run, lt_nat, hj, decide_true, if_true, cS, dS, aS, lS, Option.bind_some, atw hjm hk hm hm, inb_nat, hlt, Int.toNat_natCast, w1 (show j ≤ 1000 by omega)]
    · simp only [impl_MirrorFactor_l4_T, Tree.run, lt_nat, hj, decide_true, if_true, cI, dI, aI, eS, lI, Option.bind_some, atw hjm hk hm hm, Int.toNat_natCast, List.length_set, lessL_len, w1 (show j ≤ 1000 by omega)]
  · rintro ⟨v, R⟩ ⟨hv, hR⟩
    exact ⟨(v, R), by simp [spec_l03Mirror_l4_T, Tree.run], by simp [impl_MirrorFactor_l4_T, Tree.run], hv, hR⟩
theorem mir2 {n m k : Nat} (A q v R : List Nat) (hk : k < m) (hn : n ≤ 12) (hm : m ≤ 12) (hq : q.length = n * m) (hv : v.length = n) (hR : R.length = m * m) :
    ∃ r, spec_l03Mirror_l2_g n m A k n m m m q ((0 : Int), v, R) = some r ∧ impl_MirrorFactor_l2_g n m A k n m m m q ((0 : Int), v, R) = some r ∧ r.1.length = n ∧ r.2.length = m * m := by
  refine for2 (T := fun s => (spec_l03Mirror_l2_T n m A k n m m m q s).run) (T' := fun s => (impl_MirrorFactor_l2_T n m A k n m m m q s).run) (n := 2) (s := (v, R)) (fun _ s => s.1.length = n ∧ s.2.length = m * m) (fun r => r.1.length = n ∧ r.2.length = m * m) ⟨hv, hR⟩ ?_ ?_
  · rintro j ⟨v, R⟩ hj ⟨hv, hR⟩
    simp only at hv hR
    obtain ⟨⟨v', R'⟩, g1, g2, g3, g4⟩ := mir4 (j : Int) A q v R hk hn hm hq hv hR
    have hd : decide ((j : Int) < 2) = true := by simp; omega
    refine .inl ⟨(v', R'), ?_, ?_, g3, g4⟩
    · simp only [spec_l03Mirror_l2_T, Tree.run, hd, if_true, g1, Option.bind_some, w1 (show j ≤ 1000 by omega)]
    · simp only [impl_MirrorFactor_l2_T, Tree.run, hd, if_true, g2, Option.bind_some, w1 (show j ≤ 1000 by omega)]
  · rintro ⟨v, R⟩ ⟨hv, hR⟩
    exact ⟨(v, R), by simp [spec_l03Mirror_l2_T, Tree.run], by simp [impl_MirrorFactor_l2_T, Tree.run], hv, hR⟩
noncomputable def divL (y : Nat) (xs : List Nat) : List Nat := (List.range xs.length).map fun i => fdiv .f32 (nth xs i) y
theorem mir0 {n m : Nat} (A : List Nat) (hA : A.length = n * m) (hn : n ≤ 12) (hm : m ≤ 12) (q R : List Nat) (hq : q.length = n * m) (hR : R.length = m * m) :
    ∃ r, spec_l03Mirror_l0_g n m A n m m m ((0 : Int), q, R) = some r ∧ impl_MirrorFactor_l0_g n m A n m m m ((0 : Int), q, R) = some r ∧ ∀ d, r = .inr d → d.1.length = n * m ∧ d.2.length = m * m := by
  refine for2 (T := fun s => (spec_l03Mirror_l0_T n m A n m m m s).run) (T' := fun s => (impl_MirrorFactor_l0_T n m A n m m m s).run) (n := m) (s := (q, R)) (fun _ s => s.1.length = n * m ∧ s.2.length = m * m) (fun r => ∀ d, r = .inr d → d.1.length = n * m ∧ d.2.length = m * m) ⟨hq, hR⟩ ?_ ?_
  · rintro k ⟨q, R⟩ hk ⟨hq, hR⟩
    simp only at hq hR
    have cS := col3S hk hn hm hA
    have cI := colI hk hn hm hA
    have hw := colL_length n m A k
    generalize colL n m A k = w at cS cI hw
    obtain ⟨⟨v, R'⟩, g1, g2, g3, g4⟩ := mir2 A q w R hk hn hm hq hw hR
    simp only at g3 g4
    have dS := dotS v v (Nat.le_refl _) (by unfold maxN; omega)
    have dI := dotI v v (Nat.le_refl _) (by unfold maxN; omega)
    generalize dotN (fun i => fmul .f32 (nth v i) (nth v i)) v.length = x at dS dI
    obtain ⟨y, hy⟩ := sqrt_conv x
    have rS := rootS x y hy
    have rI : impl_norm_g v = some y := by simp only [impl_norm_g, impl_norm_T, Tree.run, dI, rootI x y hy, Option.bind_some]
    cases hg : fgrt .f32 y 0 with
    | false =>
      refine .inr ⟨.inl (), ?_, ?_, fun d h => by cases h⟩
      · simp only [spec_l03Mirror_l0_T, Tree.run, lt_nat, hk, decide_true, if_true, cS, g1, dS, rS, hg, Option.bind_some, Bool.not_false]
      · simp only [impl_MirrorFactor_l0_T, Tree.run, lt_nat, hk, decide_true, if_true, cI, g2, rI, hg, Option.bind_some, Bool.not_false]
    | true =>
      have hlt : k * m + k < R'.length := by rw [g4]; exact rc_lt hk hk
      have eI := setR hk hk hm hm g4
      have g4' : (R'.set (k * m + k) y).length = m * m := by simp [g4]
      have v6 : ∀ R'', impl_MirrorFactor_l6_g k y ((v.length : Nat) : Int) n m m m q R'' ((0 : Int), v) = some (divL y v) := fun R'' => by
        refine each_gen (T := fun s => (impl_MirrorFactor_l6_T k y ((v.length : Nat) : Int) n m m m q R'' s).run) (n := v.length) (fun i z => fdiv .f32 z y) rfl ?_ ?_
        · intro i s hi hl
          simp only [impl_MirrorFactor_l6_T, Tree.run, lt_nat, inb_nat, hl, hi, decide_true, if_true, Int.toNat_natCast, w1 (show i ≤ 1000 by omega)]
        · intro s hl; simp [impl_MirrorFactor_l6_T, Tree.run]
      have hdl : (divL y v).length = n := by simp [divL, g3]
      obtain ⟨q', s1, s2, s3⟩ : ∃ q', spec_l03Mirror_l8_g k y ((v.length : Nat) : Int) n m m m v (R'.set (k * m + k) y) ((0 : Int), q) = some q' ∧ impl_Matrix_setColumn_l0_g n m k (divL y v) ((0 : Int), q) = some q' ∧ q'.length = n * m := by
        refine for2 (T := fun s => (spec_l03Mirror_l8_T k y ((v.length : Nat) : Int) n m m m v (R'.set (k * m + k) y) s).run) (T' := fun s => (impl_Matrix_setColumn_l0_T n m k (divL y v) s).run) (n := n) (s := q) (fun _ s => s.length = n * m) (fun r => r.length = n * m) hq ?_ ?_
        · intro i s hi hs
          have hlt : i * m + k < s.length := by rw [hs]; exact rc_lt hi hk
          have hnd : nth (divL y v) i = fdiv .f32 (nth v i) y := nth_map_range _ _ _ (by omega)
          refine .inl ⟨s.set (i * m + k) (fdiv .f32 (nth v i) y), ?_, ?_, by simp [hs]⟩
          · simp only [spec_l03Mirror_l8_T, Tree.run, g3, lt_nat, hi, decide_true, if_true, inb_nat, atw hi hk hn hm, hlt, Int.toNat_natCast, w1 (show i ≤ 1000 by omega)]
          · simp only [impl_Matrix_setColumn_l0_T, Tree.run, lt_nat, hi, decide_true, if_true, inb_nat, hdl, setR hi hk hn hm hs, Option.bind_some, atw hi hk hn hm, Int.toNat_natCast, List.length_set, hnd, w1 (show i ≤ 1000 by omega)]
        · intro s hs
          exact ⟨s, by simp [spec_l03Mirror_l8_T, Tree.run, g3], by simp [impl_Matrix_setColumn_l0_T, Tree.run], hs⟩
      have sI : impl_Matrix_setColumn_g n m q k (divL y v) = some q' := by simp only [impl_Matrix_setColumn_g, impl_Matrix_setColumn_T, Tree.run, s2, Option.bind_some, if_true]
      have hqq : decide (q'.length = q.length) = true := by simp [s3, hq]
      refine .inl ⟨(q', R'.set (k * m + k) y), ?_, ?_, s3, g4'⟩
      · simp only [spec_l03Mirror_l0_T, Tree.run, lt_nat, hk, decide_true, if_true, cS, g1, dS, rS, hg, Option.bind_some, Bool.not_true, Bool.false_eq_true, if_false, atw hk hk hm hm, inb_nat, hlt, Int.toNat_natCast, s1, w1 (show k ≤ 1000 by omega)]
      · simp only [impl_MirrorFactor_l0_T, Tree.run, lt_nat, hk, decide_true, if_true, cI, g2, rI, hg, eI, Option.bind_some, Bool.not_true, Bool.false_eq_true, if_false, atw hk hk hm hm, Int.toNat_natCast, List.length_set, v6, sI, hqq, w1 (show k ≤ 1000 by omega)]
  · rintro ⟨q, R⟩ ⟨hq, hR⟩
    exact ⟨.inr (q, R), by simp [spec_l03Mirror_l0_T, Tree.run], by simp [impl_MirrorFactor_l0_T, Tree.run], fun d h => by cases h; exact ⟨hq, hR⟩⟩
/-- What the mirrors come to, on both sides. -/
theorem mir_both {n m : Nat} (A : List Nat) (hA : A.length = n * m) (a1 : 1 ≤ n) (hn : n ≤ 12) (b1 : 1 ≤ m) (hm : m ≤ 12) :
    ∃ r, impl_MirrorFactor_l0_g n m A n m m m ((0 : Int), List.replicate (n * m) 0, List.replicate (m * m) 0) = some r ∧
      spec_l03Mirror_g n m A = some (match r with | .inl _ => .inl () | .inr d => if d.1.all sfin = true then .inr (.inl ((n : Int), (m : Int), (m : Int), (m : Int), d.2.all sfin, d.1, d.2)) else .inr (.inr ((n : Int), (m : Int), (m : Int), (m : Int), d.1, d.2))) ∧
      ∀ d, r = .inr d → d.1.length = n * m ∧ d.2.length = m * m := by
  obtain ⟨r, g1, g2, g3⟩ := mir0 A hA hn hm (List.replicate (n * m) 0) (List.replicate (m * m) 0) (by simp) (by simp)
  refine ⟨r, g2, ?_, g3⟩
  have hb := le144 hn hm
  have hb2 := le144 hm hm
  cases r with
  | inl u => simp only [spec_l03Mirror_g, spec_l03Mirror_T, Tree.run, zeroS hn hm, zeroS hm hm, mulw hn hm, mulw hm hm, Int.toNat_natCast, g1, Option.bind_some, if_true]
  | inr d =>
    obtain ⟨q, R⟩ := d
    obtain ⟨l1, l2⟩ := g3 _ rfl
    simp only at l1 l2
    have v1 := vmS n m q (by unfold maxN; omega)
    have v2 := vmS m m R (by unfold maxN; omega)
    rw [vm_nat a1 hn b1 hm l1] at v1
    rw [vm_nat b1 hm b1 hm l2] at v2
    simp only [spec_l03Mirror_g, spec_l03Mirror_T, Tree.run, zeroS hn hm, zeroS hm hm, mulw hn hm, mulw hm hm, Int.toNat_natCast, g1, v1, v2, Option.bind_some, if_true]
    cases q.all sfin <;> simp
end Go.Proofs.Ytflodniglbgkhaa.AM
