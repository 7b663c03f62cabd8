/- Solving with thirds. -/
import Derived.Test.YtimlecagkbbnpaaT0
set_option linter.unusedSimpArgs false
set_option linter.unusedVariables false
namespace Go.Proofs.Ytimlecagkbbnpaa.AM

theorem ord_comm (a b : Ieee.Datum) : (a.order b == some .eq) = (b.order a == some .eq) := by
  cases a with
  | nan => cases b <;> rfl
  | infinity s =>
    cases b with
    | nan => rfl
    | infinity t => cases s <;> cases t <;> rfl
    | number t n j => cases s <;> rfl
  | number s m i =>
    cases b with
    | nan => rfl
    | infinity t => cases t <;> rfl
    | number t n j =>
      simp only [Ieee.Datum.order]
      rw [Int.min_comm j i, Bool.eq_iff_iff]
      simp only [beq_iff_eq, Option.some.injEq, Int.compare_eq_eq]
      exact eq_comm
theorem feq_comm (x y : Nat) : feq .f32 x y = feq .f32 y x := by
  unfold feq Ieee.Format.order
  exact ord_comm _ _
/-- The elimination: after j rounds. -/
noncomputable def fwd (l u m v : List Nat) : Nat → List Nat × List Nat
  | 0 => (m, v)
  | j + 1 => ((fwd l u m v j).1.set (j + 1) (fsub .f32 (nth (fwd l u m v j).1 (j + 1)) (fmul .f32 (fdiv .f32 (nth l (j + 1)) (nth (fwd l u m v j).1 j)) (nth u j))),
      (fwd l u m v j).2.set (j + 1) (fsub .f32 (nth (fwd l u m v j).2 (j + 1)) (fmul .f32 (fdiv .f32 (nth l (j + 1)) (nth (fwd l u m v j).1 j)) (nth (fwd l u m v j).2 j))))
theorem fwd_len (l u m v : List Nat) : ∀ j, (fwd l u m v j).1.length = m.length ∧ (fwd l u m v j).2.length = v.length
  | 0 => ⟨rfl, rfl⟩
  | j + 1 => by simp [fwd, fwd_len l u m v j]
theorem fwd_keep (l u m v : List Nat) (i : Nat) : ∀ d, nth (fwd l u m v (i + d)).1 i = nth (fwd l u m v i).1 i
  | 0 => rfl
  | d + 1 => by
    rw [← Nat.add_assoc, fwd, ← fwd_keep l u m v i d]
    simp only
    rw [nth_set_ne _ _ _ _ (by omega)]
theorem fwdI (l m u v : List Nat) (h : shape3 l m u) (hv : v.length = m.length) : impl_ThirdsSolve_l0_g l u v ((1 : Int), m, v) = some (fwd l u m v (m.length - 1)) := by
  obtain ⟨a1, a2, a3, a4⟩ := h
  refine Eq.trans ?_ (whileM_fix (T := fun s => (impl_ThirdsSolve_l0_T l u v s).run) (n := m.length - 1) (r := fwd l u m v (m.length - 1)) (fun j => (((j + 1 : Nat) : Int), (fwd l u m v j).1, (fwd l u m v j).2)) ?_ ?_)
  · rfl
  · intro j hj
    obtain ⟨k1, k2⟩ := fwd_len l u m v j
    have w1 : IntKind.i64.wrap (((j + 1 : Nat) : Int) + 1) = ((j + 1 + 1 : Nat) : Int) := w_succ (by omega)
    have w2 : IntKind.i64.wrap (((j + 1 : Nat) : Int) - 1) = (j : Int) := by rw [w64 (by omega) (by omega)]; omega
    simp only [impl_ThirdsSolve_l0_T, impl_mul_v, Tree.run, lt_nat, inb_nat, w1, w2, k1, k2, hv, a3, a4, show j + 1 < m.length by omega, show j < m.length by omega, decide_true, if_true, Int.toNat_natCast, fwd]
  · simp only [impl_ThirdsSolve_l0_T, Tree.run, lt_nat, hv, show ¬ (m.length - 1 + 1 < m.length) by omega, decide_false, Bool.false_eq_true, if_false]
theorem fwdS (l m u v : List Nat) (h : shape3 l m u) (hv : v.length = m.length) : spec_l07Solve_l0_g l u v ((1 : Int), m, v) = some (if ((List.range (m.length - 1)).any fun j => feq .f32 (nth (fwd l u m v (j + 1)).1 (j + 1)) 0) = true then .inl () else .inr (fwd l u m v (m.length - 1))) := by
  obtain ⟨a1, a2, a3, a4⟩ := h
  refine Eq.trans ?_ (whileM_stop (T := fun s => (spec_l07Solve_l0_T l u v s).run) (n := m.length - 1) (p := fun j => feq .f32 (nth (fwd l u m v (j + 1)).1 (j + 1)) 0) (a := .inl ()) (b := .inr (fwd l u m v (m.length - 1))) (fun j => (((j + 1 : Nat) : Int), (fwd l u m v j).1, (fwd l u m v j).2)) ?_ ?_)
  · rfl
  · intro j hj
    obtain ⟨k1, k2⟩ := fwd_len l u m v j
    have w1 : IntKind.i64.wrap (((j + 1 : Nat) : Int) + 1) = ((j + 1 + 1 : Nat) : Int) := w_succ (by omega)
    have w2 : IntKind.i64.wrap (((j + 1 : Nat) : Int) - 1) = (j : Int) := by rw [w64 (by omega) (by omega)]; omega
    simp only [spec_l07Solve_l0_T, Tree.run, lt_nat, inb_nat, w1, w2, k1, k2, hv, a3, a4, show j + 1 < m.length by omega, show j < m.length by omega, decide_true, if_true, Int.toNat_natCast, fwd]
    first | done | rfl
  · simp only [spec_l07Solve_l0_T, Tree.run, lt_nat, hv, show ¬ (m.length - 1 + 1 < m.length) by omega, decide_false, Bool.false_eq_true, if_false]
/-- The way back: after k rounds. -/
noncomputable def bwd (u M B : List Nat) : Nat → List Nat
  | 0 => List.replicate B.length 0
  | k + 1 => (bwd u M B k).set (B.length - 1 - k) (if k = 0 then fdiv .f32 (nth B (B.length - 1 - k)) (nth M (B.length - 1 - k)) else
      fdiv .f32 (fsub .f32 (nth B (B.length - 1 - k)) (fmul .f32 (nth u (B.length - 1 - k)) (nth (bwd u M B k) (B.length - 1 - k + 1)))) (nth M (B.length - 1 - k)))
theorem bwd_len (u M B : List Nat) : ∀ k, (bwd u M B k).length = B.length
  | 0 => by simp [bwd]
  | k + 1 => by simp [bwd, bwd_len u M B k]
theorem bwdS (u v M B : List Nat) (hM : M.length = B.length) (hu : u.length = B.length) (hv : v.length = B.length) (hn : B.length ≤ 32) : spec_l07Solve_l2_g u v M B ((B.length : Int) - 1, List.replicate B.length 0) = some (bwd u M B B.length) := by
  refine Eq.trans ?_ (whileM_fix (T := fun s => (spec_l07Solve_l2_T u v M B s).run) (n := B.length) (r := bwd u M B B.length) (fun k => ((B.length : Int) - 1 - (k : Nat), bwd u M B k)) ?_ ?_)
  · simp [spec_l07Solve_l2_g, bwd]
  · intro k hk
    obtain ⟨i, hi⟩ : ∃ i, i = B.length - 1 - k := ⟨_, rfl⟩
    have e : (B.length : Int) - 1 - (k : Nat) = (i : Int) := by omega
    have e2 : (B.length : Int) - 1 - ((k + 1 : Nat) : Int) = (i : Int) - 1 := by omega
    have w1 : IntKind.i64.wrap ((i : Int) + 1) = ((i + 1 : Nat) : Int) := w_succ (by omega)
    have w2 : IntKind.i64.wrap ((i : Int) - 1) = (i : Int) - 1 := w64 (by omega) (by omega)
    have hl := bwd_len u M B k
    have h0 : decide ((0 : Int) ≤ (i : Int)) = true := by simp
    simp only [e, e2]
    by_cases hk0 : k = 0
    · simp only [spec_l07Solve_l2_T, Tree.run, lt_nat, inb_nat, h0, w1, w2, hl, hM, hu, hv, show i < B.length by omega, show ¬ (i + 1 < B.length) by omega, decide_true, decide_false, Bool.false_eq_true, if_false, if_true, Int.toNat_natCast]
      rw [bwd, if_pos hk0, ← hi]
    · simp only [spec_l07Solve_l2_T, Tree.run, lt_nat, inb_nat, h0, w1, w2, hl, hM, hu, hv, show i < B.length by omega, show i + 1 < B.length by omega, decide_true, decide_false, Bool.false_eq_true, if_false, if_true, Int.toNat_natCast]
      rw [bwd, if_neg hk0, ← hi]
  · have : decide ((0 : Int) ≤ (B.length : Int) - 1 - (B.length : Nat)) = false := by simp; omega
    simp only [spec_l07Solve_l2_T, Tree.run, this, Bool.false_eq_true, if_false]
theorem bwdI (u v M B : List Nat) (hM : M.length = B.length) (hu : u.length = B.length) (hv : v.length = B.length) (hn : B.length ≤ 32) : impl_ThirdsSolve_l2_g u v M ((B.length : Int) - 1, B) = some (bwd u M B B.length) := by
  have key := whileM_for (T := fun s => (impl_ThirdsSolve_l2_T u v M s).run) (σ := List Nat) (n := B.length) (s := B) (r := fun s => s) (fun k Y => ((B.length : Int) - 1 - (k : Nat), Y))
    (fun k Y => Y.set (B.length - 1 - k) (if k = 0 then fdiv .f32 (nth Y (B.length - 1 - k)) (nth M (B.length - 1 - k)) else
      fdiv .f32 (fsub .f32 (nth Y (B.length - 1 - k)) (fmul .f32 (nth u (B.length - 1 - k)) (nth Y (B.length - 1 - k + 1)))) (nth M (B.length - 1 - k))))
    (fun k Y => Y.length = B.length ∧ (∀ i, i < B.length - k → nth Y i = nth B i) ∧ ∀ i, B.length - k ≤ i → i < B.length → nth Y i = nth (bwd u M B k) i)
    ⟨rfl, fun i _ => rfl, fun i h1 h2 => by omega⟩ ?_ ?_
  · obtain ⟨g1, g2, g3, g4⟩ := key
    have : iterN (fun k Y => Y.set (B.length - 1 - k) (if k = 0 then fdiv .f32 (nth Y (B.length - 1 - k)) (nth M (B.length - 1 - k)) else
      fdiv .f32 (fsub .f32 (nth Y (B.length - 1 - k)) (fmul .f32 (nth u (B.length - 1 - k)) (nth Y (B.length - 1 - k + 1)))) (nth M (B.length - 1 - k)))) B.length B = bwd u M B B.length :=
      ext_nth (by rw [g2, bwd_len]) fun i hi => g4 i (by omega) (by omega)
    rw [this] at g1
    simpa [impl_ThirdsSolve_l2_g] using g1
  · intro k Y hk hI
    obtain ⟨hl, h1, h2⟩ := hI
    obtain ⟨i, hi⟩ : ∃ i, i = B.length - 1 - k := ⟨_, rfl⟩
    have e : (B.length : Int) - 1 - (k : Nat) = (i : Int) := by omega
    have e2 : (B.length : Int) - 1 - ((k + 1 : Nat) : Int) = (i : Int) - 1 := by omega
    have w1 : IntKind.i64.wrap ((i : Int) + 1) = ((i + 1 : Nat) : Int) := w_succ (by omega)
    have w2 : IntKind.i64.wrap ((i : Int) - 1) = (i : Int) - 1 := w64 (by omega) (by omega)
    have h0 : decide ((0 : Int) ≤ (i : Int)) = true := by simp
    have hin : i < B.length := by omega
    simp only [e, e2, ← hi]
    refine ⟨?_, ?_, ?_, ?_⟩
    · by_cases hk0 : k = 0
      · simp only [impl_ThirdsSolve_l2_T, impl_mul_v, Tree.run, lt_nat, inb_nat, h0, w1, w2, hl, hM, hu, hv, hin, show ¬ (i + 1 < B.length) by omega, decide_true, decide_false, Bool.false_eq_true, if_false, if_true, Int.toNat_natCast, if_pos hk0]
      · simp only [impl_ThirdsSolve_l2_T, impl_mul_v, Tree.run, lt_nat, inb_nat, h0, w1, w2, hl, hM, hu, hv, hin, show i + 1 < B.length by omega, decide_true, decide_false, Bool.false_eq_true, if_false, if_true, Int.toNat_natCast, if_neg hk0, List.length_set, List.set_set, nth_set_eq Y i _ (by omega)]
    · simp [hl]
    · intro q hq
      rw [nth_set_ne _ _ _ _ (by omega)]
      exact h1 q (by omega)
    · intro q hq1 hq2
      rw [bwd, ← hi]
      by_cases hqi : q = i
      · subst hqi
        rw [nth_set_eq _ _ _ (by omega), nth_set_eq _ _ _ (by rw [bwd_len]; omega), h1 q (by omega)]
        by_cases hk0 : k = 0
        · rw [if_pos hk0, if_pos hk0]
        · rw [if_neg hk0, if_neg hk0, h2 (q + 1) (by omega) (by omega)]
      · rw [nth_set_ne _ _ _ _ (fun h => hqi h.symm), nth_set_ne _ _ _ _ (fun h => hqi h.symm)]
        exact h2 q (by omega) hq2
  · rintro Y ⟨hl, _⟩
    have : decide ((0 : Int) ≤ (B.length : Int) - 1 - (B.length : Nat)) = false := by simp; omega
    simp only [impl_ThirdsSolve_l2_T, Tree.run, this, Bool.false_eq_true, if_false]
theorem ts_zero (l m u v : List Nat) (h : shape3 l m u) : ((fwd l u m v (m.length - 1)).1.any fun y => feq .f32 0 y) = (feq .f32 (nth m 0) 0 || (List.range (m.length - 1)).any fun j => feq .f32 (nth (fwd l u m v (j + 1)).1 (j + 1)) 0) := by
  obtain ⟨a1, _⟩ := h
  have hl := (fwd_len l u m v (m.length - 1)).1
  rw [← any_range (fun y => feq .f32 0 y), hl]
  obtain ⟨n, hn⟩ : ∃ n, m.length = n + 1 := ⟨m.length - 1, by omega⟩
  simp only [hn, Nat.add_sub_cancel]
  rw [List.range_succ_eq_map, List.any_cons, List.any_map]
  have e0 : nth (fwd l u m v n).1 0 = nth m 0 := by
    have := fwd_keep l u m v 0 n
    rw [Nat.zero_add] at this
    rw [this]; rfl
  rw [e0, feq_comm 0]
  congr 1
  rw [Bool.eq_iff_iff, List.any_eq_true, List.any_eq_true]
  have hh : ∀ j, j < n → feq .f32 0 (nth (fwd l u m v n).1 (j + 1)) = feq .f32 (nth (fwd l u m v (j + 1)).1 (j + 1)) 0 := fun j hj => by
    have := fwd_keep l u m v (j + 1) (n - (j + 1))
    rw [show j + 1 + (n - (j + 1)) = n by omega] at this
    rw [this, feq_comm]
  constructor
  · rintro ⟨j, hj, h2⟩
    exact ⟨j, hj, by rw [← hh j (by simpa using hj)]; exact h2⟩
  · rintro ⟨j, hj, h2⟩
    exact ⟨j, hj, by rw [← hh j (by simpa using hj)] at h2; exact h2⟩
theorem ts_both2 (l m u v : List Nat) (hl : l.length ≤ maxN) (hm : m.length ≤ maxN) (hu : u.length ≤ maxN) (hv : v.length ≤ maxN) : ∃ r, impl_ThirdsSolve_g l m u v = some r ∧ spec_ThirdsSolve_g l m u v = some r ∧ ∀ d, r = .inr d → d.length = v.length ∧ d.length ≤ 144 := by
  obtain ⟨b, f1, f2, f3⟩ := fits_both l m u v hl hm hu hv
  cases b with
  | false => exact ⟨.inl (), by simp [impl_ThirdsSolve_g, impl_ThirdsSolve_T, Tree.run, f1], by simp [spec_ThirdsSolve_g, spec_ThirdsSolve_T, Tree.run, f2], fun d h => by cases h⟩
  | true =>
    obtain ⟨h, hvm⟩ := f3 rfl
    have hc := h
    obtain ⟨a1, a2, a3, a4⟩ := hc
    have kM := (fwd_len l u m v (m.length - 1)).1
    have kB := (fwd_len l u m v (m.length - 1)).2
    have hz := ts_zero l m u v h
    have hcon := contF (fwd l u m v (m.length - 1)).1 0 (by omega)
    have q1 : decide (0 < m.length) = true := by simp; omega
    have q2 : decide (0 < v.length) = true := by simp; omega
    have q3 : fits m.length = true := fits_iff.2 hm
    have q4 : fits v.length = true := fits_iff.2 hv
    have q5 : inb (0 : Int) m.length = true := inb_iff.2 ⟨by omega, by omega⟩
    have q6 : inb ((v.length : Nat) : Int) (maxN + 1) = true := by rw [inb_nat]; simp; omega
    have w : IntKind.i64.wrap ((v.length : Int) - 1) = ((fwd l u m v (m.length - 1)).2.length : Int) - 1 := by rw [kB, w64 (by omega) (by omega)]
    have gS := bwdS u v (fwd l u m v (m.length - 1)).1 (fwd l u m v (m.length - 1)).2 (by omega) (by omega) (by omega) (by omega)
    have gI := bwdI u v (fwd l u m v (m.length - 1)).1 (fwd l u m v (m.length - 1)).2 (by omega) (by omega) (by omega) (by omega)
    have hd : (bwd u (fwd l u m v (m.length - 1)).1 (fwd l u m v (m.length - 1)).2 (fwd l u m v (m.length - 1)).2.length).length = v.length := by rw [bwd_len, kB]
    generalize hD : bwd u (fwd l u m v (m.length - 1)).1 (fwd l u m v (m.length - 1)).2 (fwd l u m v (m.length - 1)).2.length = d at gS gI hd
    rw [kB] at gS
    have c1 := fwdI l m u v h hvm
    have c2 := fwdS l m u v h hvm
    have hdm : d.length ≤ maxN := by omega
    have hcl1 : slices_CloneF_g m = some () := by simp only [slices_CloneF_g, slices_CloneF_T, Tree.run, List.nil_append, q1, q3, if_true]
    have hcl2 : slices_CloneF_g v = some () := by simp only [slices_CloneF_g, slices_CloneF_T, Tree.run, List.nil_append, q2, q4, if_true]
    by_cases hZ : ((fwd l u m v (m.length - 1)).1.any fun y => feq .f32 0 y) = true
    · refine ⟨.inl (), ?_, ?_, fun d h => by cases h⟩
      · simp only [impl_ThirdsSolve_g, impl_ThirdsSolve_T, Tree.run, f1, hcl1, hcl2, List.nil_append, c1, hcon, hZ, Option.bind_some, Bool.not_true, Bool.false_eq_true, if_false, if_true]
      · rw [hz] at hZ
        have hS : spec_l07Solve_g l m u v = some (.inl ()) := by
          simp only [spec_l07Solve_g, spec_l07Solve_T, Tree.run, List.nil_append, q3, q4, q5, c2, Option.bind_some, if_true]
          cases hm0 : feq .f32 (nth m (Int.toNat 0)) 0 with
          | true => simp [Tree.run]
          | false =>
            have hm1 : feq .f32 (nth m 0) 0 = false := hm0
            rw [hm1, Bool.false_or] at hZ
            simp [Tree.run, hZ]
        simp [spec_ThirdsSolve_g, spec_ThirdsSolve_T, Tree.run, f2, hS]
    · have hZ' := hZ
      rw [hz] at hZ'
      simp only [Bool.or_eq_true, not_or, Bool.not_eq_true] at hZ'
      have hm0 : feq .f32 (nth m (Int.toNat 0)) 0 = false := hZ'.1
      have hF : ((fwd l u m v (m.length - 1)).1.any fun y => feq .f32 0 y) = false := by simpa using hZ
      refine ⟨if d.all sfin = true then .inr d else .inl (), ?_, ?_, ?_⟩
      · simp only [impl_ThirdsSolve_g, impl_ThirdsSolve_T, Tree.run, f1, hcl1, hcl2, List.nil_append, c1, hcon, hF, w, gI, allFinI d hdm, Option.bind_some, Bool.not_true, Bool.false_eq_true, if_false, if_true]
        split <;> simp [Tree.run]
      · have hS : spec_l07Solve_g l m u v = some (if d.all sfin = true then .inr d else .inl ()) := by
          simp only [spec_l07Solve_g, spec_l07Solve_T, Tree.run, List.nil_append, q3, q4, q5, q6, c2, hm0, hZ'.2, w, Int.toNat_natCast, Option.bind_some, Bool.false_eq_true, if_true, if_false, kB, gS, listS d hdm]
          split <;> simp [Tree.run]
        simp only [spec_ThirdsSolve_g, spec_ThirdsSolve_T, Tree.run, f2, hS, Option.bind_some, Bool.not_true, Bool.false_eq_true, if_false, if_true]
        split <;> simp [Tree.run]
      · intro d' h'
        split at h'
        · cases h'; exact ⟨by omega, by omega⟩
        · cases h'
theorem ts_both (l m u v : List Nat) (hl : l.length ≤ maxN) (hm : m.length ≤ maxN) (hu : u.length ≤ maxN) (hv : v.length ≤ maxN) : ∃ r, impl_ThirdsSolve_g l m u v = some r ∧ spec_ThirdsSolve_g l m u v = some r ∧ ∀ d, r = .inr d → d.length ≤ 144 := by
  obtain ⟨r, a, b, c⟩ := ts_both2 l m u v hl hm hu hv
  exact ⟨r, a, b, fun d h => (c d h).2⟩
end Go.Proofs.Ytimlecagkbbnpaa.AM
