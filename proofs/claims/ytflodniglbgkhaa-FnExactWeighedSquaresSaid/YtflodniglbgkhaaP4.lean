/- Least squares by mirrors. -/
import Derived.Test.YtflodniglbgkhaaP3
set_option linter.unusedSimpArgs false
set_option linter.unusedVariables false
namespace Go.Proofs.Ytflodniglbgkhaa.AM

theorem ord_comm (a b : Ieee.Datum) : (a.order b == some .eq) = (b.order a == some .eq) := by
  cases a with
  | nan => cases b <;> rfl
  | infinity s =>
    cases b with
    | nan => rfl
    | infinity t => cases s <;> cases t <;> rfl
    | number t n j => cases s <;> rfl
  | number s m i =>
    cases b with
    | nan => rfl
    | infinity t => cases t <;> rfl
    | number t n j =>
      simp only [Ieee.Datum.order]
      rw [Int.min_comm j i, Bool.eq_iff_iff]
      simp only [beq_iff_eq, Option.some.injEq, Int.compare_eq_eq]
      exact eq_comm
theorem feq_comm (k : FloatKind) (x y : Nat) : feq k x y = feq k y x := by
  unfold feq Ieee.Format.order
  exact ord_comm _ _
/-- A sum that goes on from a number is had. -/
theorem acc_gen {T : Nat × Int → Option ((Nat × Int) ⊕ Nat)} {n : Nat} (h : ∀ (k s : Nat), k < n → ∃ s', T (s, (k : Int)) = some (.inl (s', ((k + 1 : Nat) : Int)))) (he : ∀ (k s : Nat), n ≤ k → T (s, (k : Int)) = some (.inr s)) :
    ∀ (a s : Nat), ∃ y, whileM T (s, (a : Int)) = some y := by
  have key : ∀ (d a s : Nat), n ≤ a + d → ∃ y, whileM T (s, (a : Int)) = some y := by
    intro d
    induction d with
    | zero => intro a s ha; exact ⟨s, by rw [whileM_eq, he a s (by omega)]⟩
    | succ d ih =>
      intro a s ha
      by_cases hk : a < n
      · obtain ⟨s', h1⟩ := h a s hk
        obtain ⟨y, hy⟩ := ih (a + 1) s' (by omega)
        exact ⟨y, by rw [whileM_eq, h1]; exact hy⟩
      · exact ⟨s, by rw [whileM_eq, he a s (by omega)]⟩
  exact fun a s => key n a s (by omega)
theorem isVecI (xs : List Nat) (h : xs.length ≤ maxN) : impl_IsVector_g xs = some (decide ((1 : Int) ≤ xs.length) && decide ((xs.length : Int) ≤ 256) && xs.all sfin) := by
  simp only [impl_IsVector_g, impl_IsVector_T, Tree.run, inR, impl_lengthF_v, areFin xs h, Option.bind_some]
  cases (decide ((1 : Int) ≤ (xs.length : Int)) && decide ((xs.length : Int) ≤ 256)) <;> simp
theorem isVecS (xs : List Nat) (h : xs.length ≤ maxN) : spec_l02Vector_g xs = some (decide ((1 : Int) ≤ xs.length) && decide ((xs.length : Int) ≤ 256) && xs.all sfin) := by
  simp only [spec_l02Vector_g, spec_l02Vector_T, Tree.run, finiteS xs h, Option.bind_some]
  generalize xs.all sfin = z
  by_cases a1 : (1 : Int) ≤ (xs.length : Int) <;> by_cases a2 : (xs.length : Int) ≤ 256 <;> simp [a1, a2]
theorem whileM_inl {σ ρ : Type} {T : σ → Option (σ ⊕ ρ)} {s s' : σ} {r : Option ρ} (h : T s = some (.inl s')) (h' : whileM T s' = r) : whileM T s = r := by rw [whileM_eq, h]; exact h'
theorem whileM_inr {σ ρ : Type} {T : σ → Option (σ ⊕ ρ)} {s : σ} {r : ρ} (h : T s = some (.inr r)) : whileM T s = some r := by rw [whileM_eq, h]
theorem usLoop {n : Nat} {M b : List Nat} (hn : n ≤ 12) (hM : M.length = n * n) (hb : b.length = n) : ∀ (t : Nat) (x : List Nat), t ≤ n → x.length = n → (∀ j, j < t → nth x j = nth b j) →
    ∃ X : List Nat, X.length = n ∧ impl_Matrix_upperSolve_l0_g n n M ((t : Int) - 1, x) = some X ∧ spec_l03UpperSolve_l0_g n n M b ((t : Int) - 1, x) = some (if ((List.range t).any fun i => feq .f32 (nth M (i * n + i)) 0) = true then .inl () else .inr X) := by
  intro t
  induction t with
  | zero =>
    intro x _ hx _
    refine ⟨x, hx, ?_, ?_⟩
    · show whileM _ _ = _
      rw [whileM_eq]
      simp [impl_Matrix_upperSolve_l0_T, Tree.run]
    · show whileM _ _ = _
      rw [whileM_eq]
      simp [spec_l03UpperSolve_l0_T, Tree.run]
  | succ t ih =>
    intro x ht hx hxb
    have e0 : ((t + 1 : Nat) : Int) - 1 = (t : Int) := by omega
    have d0 : decide ((0 : Int) ≤ (t : Int)) = true := by simp
    have hsub : IntKind.i64.wrap ((t : Int) - 1) = (t : Int) - 1 := w64 (by omega) (by omega)
    obtain ⟨y, hy⟩ := acc_gen (T := fun s => (impl_Matrix_lessRow_l0_T n M (t : Int) n x s).run) (n := n) (fun k s hk => by
      refine ⟨fsub .f32 s (fmul .f32 (nth M (t * n + k)) (nth x k)), ?_⟩
      simp only [impl_Matrix_lessRow_l0_T, impl_mul_v, Tree.run, lt_nat, hk, decide_true, if_true, atI (show t < n by omega) hk hn hn hM, inb_nat, hx, Option.bind_some, Int.toNat_natCast, w1 (show k ≤ 1000 by omega)]) (fun k s hk => by simp [impl_Matrix_lessRow_l0_T, Tree.run]; omega) (t + 1) (nth x t)
    have hy1 : impl_Matrix_lessRow_l0_g n M (t : Int) n x (nth x t, ((t + 1 : Nat) : Int)) = some y := hy
    have hy2 : spec_l03UpperSolve_l2_g n n M (t : Int) x (nth x t, ((t + 1 : Nat) : Int)) = some y := hy
    have hlr : impl_Matrix_lessRow_g n n M (nth x t) (t : Int) ((t + 1 : Nat) : Int) n x = some y := by
      simp only [impl_Matrix_lessRow_g, impl_Matrix_lessRow_T, Tree.run, hy1, Option.bind_some, if_true]
    have aI := atI (show t < n by omega) (show t < n by omega) hn hn hM
    have aS := atS (show t < n by omega) (show t < n by omega) hn hn hM
    have hxt : decide (t < x.length) = true := by simp; omega
    have hbt : decide (t < b.length) = true := by simp; omega
    have hnb : nth b t = nth x t := (hxb t (by omega)).symm
    obtain ⟨X, k1, k2, k3⟩ := ih (x.set t (fdiv .f32 y (nth M (t * n + t)))) (by omega) (by simp [hx]) (fun j hj => by rw [nth_set_ne _ _ _ _ (by omega)]; exact hxb j (by omega))
    have stepI : impl_Matrix_upperSolve_l0_g n n M ((t : Int), x) = some X := by
      show whileM _ _ = _
      rw [whileM_eq]
      simp only [impl_Matrix_upperSolve_l0_T, Tree.run, d0, if_true, inb_nat, hxt, Int.toNat_natCast, w1 (show t ≤ 1000 by omega), hlr, aI, Option.bind_some, hsub]
      exact k2
    refine ⟨X, k1, by rw [e0]; exact stepI, ?_⟩
    rw [e0]
    rw [List.range_succ, List.any_append]
    cases hz : feq .f32 (nth M (t * n + t)) 0 with
    | true =>
      have st : (spec_l03UpperSolve_l0_T n n M b ((t : Int), x)).run = some (.inr (.inl ())) := by
        simp only [spec_l03UpperSolve_l0_T, Tree.run, d0, if_true, aS, Option.bind_some, hz]
      refine (whileM_inr (T := fun s => (spec_l03UpperSolve_l0_T n n M b s).run) st).trans ?_
      simp [hz]
    | false =>
      have st : (spec_l03UpperSolve_l0_T n n M b ((t : Int), x)).run = some (.inl ((t : Int) - 1, x.set t (fdiv .f32 y (nth M (t * n + t))))) := by
        simp only [spec_l03UpperSolve_l0_T, Tree.run, d0, if_true, aS, Option.bind_some, hz, Bool.false_eq_true, if_false, inb_nat, hbt, hnb, hxt, Int.toNat_natCast, w1 (show t ≤ 1000 by omega), hy2, hsub]
      refine (whileM_inl (T := fun s => (spec_l03UpperSolve_l0_T n n M b s).run) st k3).trans ?_
      simp [hz]
def midL (n : Nat) (M : List Nat) : List Nat := (List.range n).map fun i => nth M (i * n + i)
theorem midI {n : Nat} {M : List Nat} (hn : n ≤ 12) (hM : M.length = n * n) : impl_Matrix_middle_g n n M = some (midL n M) := by
  have hm : imin (n : Int) (n : Int) = (n : Int) := by unfold imin; simp
  have : impl_Matrix_middle_l0_g n n M ((0 : Int), ([] : List Nat)) = some (midL n M) := by
    refine app_gen (T := fun s => (impl_Matrix_middle_l0_T n n M s).run) ?_ ?_
    · intro i s hi hs
      simp only [impl_Matrix_middle_l0_T, Tree.run, hm, lt_nat, hi, decide_true, if_true, atI hi hi hn hn hM, Option.bind_some, w1 (show i ≤ 1000 by omega)]
      rw [if_pos (fitsN (by simp; omega))]
    · intro s; simp [impl_Matrix_middle_l0_T, Tree.run, hm]
  simp only [impl_Matrix_middle_g, impl_Matrix_middle_T, Tree.run, this, Option.bind_some, if_true]
/-- Both solve with what lies above. -/
theorem us_both {n : Nat} (R b : List Nat) (h1 : 1 ≤ n) (hn : n ≤ 12) (hR : R.length = n * n) (hs : R.all sfin = true) (hb : b.length = n) (hf : b.all sfin = true) :
    ∃ r : Unit ⊕ List Nat, impl_UpperSolve_g n n R b = some r ∧ spec_l03UpperSolve_g n n R b = some r ∧ ∀ d, r = .inr d → d.length = n := by
  have hb2 := le144 hn hn
  have hv : vm (n : Int) (n : Int) R = true := by rw [vm_nat h1 hn h1 hn hR, hs]
  have vI := vmI n n R (by unfold maxN; omega)
  rw [hv] at vI
  have hsq : impl_isSquare_g n n R = some true := by simp [impl_isSquare_g, impl_isSquare_T, Tree.run, vI]
  have hbv := isVecI b (by unfold maxN; omega)
  have c1 : decide ((1 : Int) ≤ (b.length : Int)) = true := by simp; omega
  have c2 : decide ((b.length : Int) ≤ 256) = true := by simp; omega
  rw [c1, c2, hf] at hbv
  have hbn : decide (impl_lengthF_v b = (n : Int)) = true := by simp [impl_lengthF_v, hb]
  have hml : (midL n R).length = n := by simp [midL]
  have hc := contF (midL n R) 0 (by rw [hml]; unfold maxN; omega)
  have hany : ((midL n R).any fun y => feq .f32 0 y) = ((List.range n).any fun i => feq .f32 (nth R (i * n + i)) 0) := by
    unfold midL
    rw [List.any_map]
    congr 1
    funext i
    simp only [Function.comp]
    exact feq_comm _ _ _
  rw [hany] at hc
  obtain ⟨X, k1, k2, k3⟩ := usLoop hn hR hb n b (Nat.le_refl _) hb (fun _ _ => rfl)
  have hw : IntKind.i64.wrap ((n : Int) - 1) = (n : Int) - 1 := w64 (by omega) (by omega)
  have q1 : decide (0 < b.length) = true := by simp; omega
  have q2 : fits b.length = true := fitsN (by omega)
  have hcl : slices_CloneF_g b = some () := by simp only [slices_CloneF_g, slices_CloneF_T, Tree.run, List.nil_append, q1, q2, if_true]
  have hus : impl_Matrix_upperSolve_g n n R b = some X := by
    simp only [impl_Matrix_upperSolve_g, impl_Matrix_upperSolve_T, Tree.run, hcl, List.nil_append, hw, k2, Option.bind_some, if_true]
  have aF := allFinI X (by unfold maxN; omega)
  have lS := listS X (by unfold maxN; omega)
  cases ha : ((List.range n).any fun i => feq .f32 (nth R (i * n + i)) 0) with
  | true =>
    rw [ha] at hc k3
    refine ⟨.inl (), ?_, ?_, fun d h => by cases h⟩
    · simp only [impl_UpperSolve_g, impl_UpperSolve_T, Tree.run, hsq, hbv, hbn, midI hn hR, hc, Option.bind_some, Bool.and_self, Bool.not_true, Bool.false_eq_true, if_false, if_true]
    · simp only [spec_l03UpperSolve_g, spec_l03UpperSolve_T, Tree.run, List.nil_append, q2, hw, k3, Option.bind_some, if_true]
  | false =>
    rw [ha] at hc k3
    simp only [Bool.false_eq_true, if_false] at k3
    refine ⟨if X.all sfin = true then .inr X else .inl (), ?_, ?_, ?_⟩
    · simp only [impl_UpperSolve_g, impl_UpperSolve_T, Tree.run, hsq, hbv, hbn, midI hn hR, hc, hus, aF, Option.bind_some, Bool.and_self, Bool.not_true, Bool.false_eq_true, if_false, if_true]
      split <;> simp [Tree.run]
    · simp only [spec_l03UpperSolve_g, spec_l03UpperSolve_T, Tree.run, List.nil_append, q2, hw, k3, lS, Option.bind_some, if_true]
      split <;> simp [Tree.run]
    · intro d h
      split at h
      · cases h; exact k1
      · cases h
/-- The right side, turned. -/
noncomputable def rightL (n m : Nat) (q b : List Nat) : List Nat := (List.range m).map fun k => dotN (fun i => fmul .f32 (nth q (i * m + k)) (nth b i)) n
theorem rightS {n m : Nat} {A q R b : List Nat} (hn : n ≤ 12) (hm : m ≤ 12) (hq : q.length = n * m) (hb : b.length = n) : spec_l03Least_l0_g m b n m m m q R ((0 : Int), ([] : List Nat)) = some (rightL n m q b) := by
  refine app_gen (T := fun s => (spec_l03Least_l0_T m b n m m m q R s).run) ?_ ?_
  · intro k s hk hs
    have dS := dotS (colL n m q k) b (by rw [colL_length]; omega) (by rw [colL_length]; unfold maxN; omega)
    rw [colL_length, dotN_congr (g := fun i => fmul .f32 (nth q (i * m + k)) (nth b i)) n (fun i hi => by rw [colL_nth hi])] at dS
    simp only [spec_l03Least_l0_T, Tree.run, lt_nat, hk, decide_true, if_true, col3S hk hn hm hq, dS, Option.bind_some, w1 (show k ≤ 1000 by omega)]
    rw [if_pos (fitsN (by simp; omega))]
  · intro s; simp [spec_l03Least_l0_T, Tree.run]
def flipL (n m : Nat) (q : List Nat) : List Nat := rc m n fun i k => nth q (k * m + i)
theorem flipI {n m : Nat} {q : List Nat} (hn : n ≤ 12) (hm : m ≤ 12) (hq : q.length = n * m) : impl_Matrix_flip_g n m q = some ((m : Int), (n : Int), flipL n m q) := by
  have : impl_made_i1_l0_g m n n m q m n ((0 : Int), List.replicate (m * n) 0) = some (flipL n m q) := by
    refine made_gen (T0 := fun s => (impl_made_i1_l0_T m n n m q m n s).run) (T2 := fun i s => (impl_made_i1_l2_T n m q i m n s).run) (n := m) (m := n) ?_ ?_ ?_ ?_
    · intro i k s hi hk hs
      have hc : impl_Matrix_flip_1_g (i : Int) (k : Int) m q = some (nth q (k * m + i)) := by
        simp only [impl_Matrix_flip_1_g, impl_Matrix_flip_1_T, Tree.run, atI hk hi hn hm hq, Option.bind_some]
      simp only [impl_made_i1_l2_T, Tree.run, lt_nat, hk, decide_true, if_true, hc, setR hi hk hm hn hs, Option.bind_some, atw hi hk hm hn, Int.toNat_natCast, List.length_set, w1 (show k ≤ 1000 by omega)]
    · intro i s hi; simp [impl_made_i1_l2_T, Tree.run]
    · intro i s s' hi h
      have h' : impl_made_i1_l2_g n m q i m n ((0 : Int), s) = some s' := h
      simp only [impl_made_i1_l0_T, Tree.run, lt_nat, hi, decide_true, if_true, h', Option.bind_some, w1 (show i ≤ 1000 by omega)]
    · intro s; simp [impl_made_i1_l0_T, Tree.run]
  simp only [impl_Matrix_flip_g, impl_Matrix_flip_T, impl_made_i1_g, impl_made_i1_T, Tree.run, newR hm hn, mulw hm hn, Int.toNat_natCast, this, Option.bind_some, if_true]
theorem rightI {n m : Nat} {q b : List Nat} (h1 : 1 ≤ n) (hn : n ≤ 12) (hm : m ≤ 12) (hq : q.length = n * m) (hb : b.length = n) : impl_Matrix_timesVector_g m n (flipL n m q) b = some (rightL n m q b) := by
  have hl : (flipL n m q).length = m * n := by simp [flipL]
  have hb2 := le144 hm hn
  rw [timesI m n (flipL n m q) b hl hb (by unfold maxN; omega) (by unfold maxN; omega) (by unfold maxN; omega) h1]
  congr 1
  unfold timesL rightL
  refine List.map_congr_left fun k hk => ?_
  have hk := List.mem_range.1 hk
  refine dotN_congr n fun i hi => ?_
  have := rowL_nth hk hi hl
  unfold rowL at this
  rw [this]
  unfold flipL
  rw [rc_nth _ hk hi]
end Go.Proofs.Ytflodniglbgkhaa.AM
