/- Powers of a square. -/
import Derived.Test.YtooakheodgndaaaP6
set_option linter.unusedSimpArgs false
set_option linter.unusedVariables false
namespace Go.Proofs.Ytooakheodgndaaa.AM

theorem mmI {n : Nat} {A B : List Nat} (h1 : 1 ≤ n) (hn : n ≤ 12) (hA : A.length = n * n) (hB : B.length = n * n) (fA : A.all sfin = true) (fB : B.all sfin = true) :
    impl_MulMatrices_g n n A n n B = some (if (mulL n n n A B).all sfin = true then .inr ((n : Int), (n : Int), mulL n n n A B) else .inl ()) := by
  have hb := le144 hn hn
  have eI := areFacI n n A n n B (by unfold maxN; omega) (by unfold maxN; omega)
  rw [vm_nat h1 hn h1 hn hA, vm_nat h1 hn h1 hn hB, fA, fB] at eI
  simp only [decide_true, Bool.and_self] at eI
  have gI := mulI (q := n) h1 hn hn hn hA hB
  have hl := mulL_length n n n A B
  generalize mulL n n n A B = d at gI hl
  have kI := validR h1 hn h1 hn hl
  simp only [impl_MulMatrices_g, impl_MulMatrices_T, Tree.run, eI, gI, kI, Option.bind_some, Bool.not_true, Bool.false_eq_true, if_false]
  split <;> simp [Tree.run]
theorem isL {n : Nat} {L : List Nat} (h1 : 1 ≤ n) (hn : n ≤ 12) (hL : L.length = n * n) : spec_l02Is_g n n L = some (L.all sfin) := by
  have hb := le144 hn hn
  have := vmS n n L (by unfold maxN; omega)
  rw [vm_nat h1 hn h1 hn hL] at this
  exact this
theorem pm1 {n : Nat} {A : List Nat} (h1 : 1 ≤ n) (hn : n ≤ 12) : ∀ (p : Nat) (R B : List Nat), p ≤ 64 → R.length = n * n → B.length = n * n → R.all sfin = true → B.all sfin = true →
    ∃ o, impl_PowerMatrix_l0_g n n A (.inr ((p : Int), (n : Int), (n : Int), (n : Int), (n : Int), R, B)) = some o ∧ spec_PowerMatrix_l0_g ((p : Int), (n : Int), (n : Int), (n : Int), (n : Int), R, B) = some o ∧ ∀ d, o = .inr d → d.1 = (n : Int) ∧ d.2.1 = (n : Int) ∧ d.2.2.length = n * n := by
  intro p
  induction p using Nat.strongRecOn with
  | _ p ih =>
    intro R B hp hR hB fR fB
    by_cases h0 : p = 0
    · subst h0
      exact ⟨.inr ((n : Int), (n : Int), R), whileM_inr (T := fun s => (impl_PowerMatrix_l0_T n n A s).run) (by simp [impl_PowerMatrix_l0_T, Tree.run]), whileM_inr (T := fun s => (spec_PowerMatrix_l0_T s).run) (by simp [spec_PowerMatrix_l0_T, Tree.run]), fun d h => by cases h; exact ⟨rfl, rfl, hR⟩⟩
    have d0 : decide ((0 : Int) < (p : Int)) = true := by simp; omega
    have dz : decide ((2 : Int) = 0) = false := by decide
    have t2 : Int.tmod (p : Int) 2 = ((p % 2 : Nat) : Int) := rfl
    have v2 : Int.tdiv (p : Int) 2 = ((p / 2 : Nat) : Int) := rfl
    have w2 : IntKind.i64.wrap (((p / 2 : Nat) : Int)) = ((p / 2 : Nat) : Int) := wN (by omega)
    have mI := mmI h1 hn hR hB fR fB
    have mS := mulS (q := n) hn hn hn hR hB
    have mL := mulL_length n n n R B
    generalize mulL n n n R B = R' at mI mS mL
    have iR := isL h1 hn mL
    have bI := mmI h1 hn hB hB fB fB
    have bS := mulS (q := n) hn hn hn hB hB
    have bL := mulL_length n n n B B
    generalize mulL n n n B B = B' at bI bS bL
    have iB := isL h1 hn bL
    -- where it goes on
    have goOn : ∀ (R2 B2 : List Nat) (o0 : Unit), R2.length = n * n → B2.length = n * n → R2.all sfin = true → B2.all sfin = true →
        (impl_PowerMatrix_l0_T n n A (.inr ((p : Int), (n : Int), (n : Int), (n : Int), (n : Int), R, B))).run = some (.inl (.inr (((p / 2 : Nat) : Int), (n : Int), (n : Int), (n : Int), (n : Int), R2, B2))) →
        (spec_PowerMatrix_l0_T ((p : Int), (n : Int), (n : Int), (n : Int), (n : Int), R, B)).run = some (.inl (((p / 2 : Nat) : Int), (n : Int), (n : Int), (n : Int), (n : Int), R2, B2)) →
        ∃ o, impl_PowerMatrix_l0_g n n A (.inr ((p : Int), (n : Int), (n : Int), (n : Int), (n : Int), R, B)) = some o ∧ spec_PowerMatrix_l0_g ((p : Int), (n : Int), (n : Int), (n : Int), (n : Int), R, B) = some o ∧ ∀ d, o = .inr d → d.1 = (n : Int) ∧ d.2.1 = (n : Int) ∧ d.2.2.length = n * n := by
      intro R2 B2 _ l1 l2 f1 f2 s1 s2
      obtain ⟨o, g1, g2, g3⟩ := ih (p / 2) (by omega) R2 B2 (by omega) l1 l2 f1 f2
      exact ⟨o, whileM_inl (T := fun s => (impl_PowerMatrix_l0_T n n A s).run) s1 g1, whileM_inl (T := fun s => (spec_PowerMatrix_l0_T s).run) s2 g2, g3⟩
    have stop : (impl_PowerMatrix_l0_T n n A (.inr ((p : Int), (n : Int), (n : Int), (n : Int), (n : Int), R, B))).run = some (.inr (.inl ())) → (spec_PowerMatrix_l0_T ((p : Int), (n : Int), (n : Int), (n : Int), (n : Int), R, B)).run = some (.inr (.inl ())) →
        ∃ o, impl_PowerMatrix_l0_g n n A (.inr ((p : Int), (n : Int), (n : Int), (n : Int), (n : Int), R, B)) = some o ∧ spec_PowerMatrix_l0_g ((p : Int), (n : Int), (n : Int), (n : Int), (n : Int), R, B) = some o ∧ ∀ d, o = .inr d → d.1 = (n : Int) ∧ d.2.1 = (n : Int) ∧ d.2.2.length = n * n := fun s1 s2 =>
      ⟨.inl (), whileM_inr (T := fun s => (impl_PowerMatrix_l0_T n n A s).run) s1, whileM_inr (T := fun s => (spec_PowerMatrix_l0_T s).run) s2, fun d h => by cases h⟩
    by_cases hodd : p % 2 = 1
    · have e1 : decide (((p % 2 : Nat) : Int) = 1) = true := by simp; omega
      cases fR' : R'.all sfin with
      | false =>
        rw [fR'] at mI iR
        refine stop ?_ ?_
        · simp only [impl_PowerMatrix_l0_T, Tree.run, d0, dz, t2, v2, w2, e1, mI, Option.bind_some, Bool.not_false, Bool.not_true, Bool.false_eq_true, if_false, if_true]
        · simp only [spec_PowerMatrix_l0_T, Tree.run, d0, dz, t2, v2, w2, e1, mS, iR, Option.bind_some, Bool.not_false, Bool.not_true, Bool.false_eq_true, if_false, if_true]
      | true =>
        rw [fR'] at mI iR
        by_cases hq : 0 < p / 2
        · have e2 : decide ((0 : Int) < ((p / 2 : Nat) : Int)) = true := by simp; omega
          cases fB' : B'.all sfin with
          | false =>
            rw [fB'] at bI iB
            refine stop ?_ ?_
            · simp only [impl_PowerMatrix_l0_T, Tree.run, d0, dz, t2, v2, w2, e1, e2, mI, bI, Option.bind_some, Bool.not_false, Bool.not_true, Bool.false_eq_true, if_false, if_true]
            · simp only [spec_PowerMatrix_l0_T, Tree.run, d0, dz, t2, v2, w2, e1, e2, mS, iR, bS, iB, Option.bind_some, Bool.not_false, Bool.not_true, Bool.false_eq_true, if_false, if_true]
          | true =>
            rw [fB'] at bI iB
            refine goOn R' B' () mL bL fR' fB' ?_ ?_
            · simp only [impl_PowerMatrix_l0_T, Tree.run, d0, dz, t2, v2, w2, e1, e2, mI, bI, Option.bind_some, Bool.not_false, Bool.not_true, Bool.false_eq_true, if_false, if_true]
            · simp only [spec_PowerMatrix_l0_T, Tree.run, d0, dz, t2, v2, w2, e1, e2, mS, iR, bS, iB, Option.bind_some, Bool.not_false, Bool.not_true, Bool.false_eq_true, if_false, if_true]
        · have e2 : decide ((0 : Int) < ((p / 2 : Nat) : Int)) = false := by simp; omega
          refine goOn R' B () mL hB fR' fB ?_ ?_
          · simp only [impl_PowerMatrix_l0_T, Tree.run, d0, dz, t2, v2, w2, e1, e2, mI, Option.bind_some, Bool.not_false, Bool.not_true, Bool.false_eq_true, if_false, if_true]
          · simp only [spec_PowerMatrix_l0_T, Tree.run, d0, dz, t2, v2, w2, e1, e2, mS, iR, Option.bind_some, Bool.not_false, Bool.not_true, Bool.false_eq_true, if_false, if_true]
    · have e1 : decide (((p % 2 : Nat) : Int) = 1) = false := by simp; omega
      have hq : 0 < p / 2 := by omega
      have e2 : decide ((0 : Int) < ((p / 2 : Nat) : Int)) = true := by simp; omega
      cases fB' : B'.all sfin with
      | false =>
        rw [fB'] at bI iB
        refine stop ?_ ?_
        · simp only [impl_PowerMatrix_l0_T, Tree.run, d0, dz, t2, v2, w2, e1, e2, bI, Option.bind_some, Bool.not_false, Bool.not_true, Bool.false_eq_true, if_false, if_true]
        · simp only [spec_PowerMatrix_l0_T, Tree.run, d0, dz, t2, v2, w2, e1, e2, bS, iB, Option.bind_some, Bool.not_false, Bool.not_true, Bool.false_eq_true, if_false, if_true]
      | true =>
        rw [fB'] at bI iB
        refine goOn R B' () hR bL fR fB' ?_ ?_
        · simp only [impl_PowerMatrix_l0_T, Tree.run, d0, dz, t2, v2, w2, e1, e2, bI, Option.bind_some, Bool.not_false, Bool.not_true, Bool.false_eq_true, if_false, if_true]
        · simp only [spec_PowerMatrix_l0_T, Tree.run, d0, dz, t2, v2, w2, e1, e2, bS, iB, Option.bind_some, Bool.not_false, Bool.not_true, Bool.false_eq_true, if_false, if_true]
/-- The first round, where b is still the argument. -/
theorem pm0 {n : Nat} {A R : List Nat} (h1 : 1 ≤ n) (hn : n ≤ 12) (p : Nat) (hp : p ≤ 64) (hA : A.length = n * n) (hR : R.length = n * n) (fA : A.all sfin = true) (fR : R.all sfin = true) :
    impl_PowerMatrix_l0_g n n A (.inl ((p : Int), (n : Int), (n : Int), R)) = impl_PowerMatrix_l0_g n n A (.inr ((p : Int), (n : Int), (n : Int), (n : Int), (n : Int), R, A)) := by
  have zero : ∀ (R : List Nat), impl_PowerMatrix_l0_g n n A (.inl ((0 : Int), (n : Int), (n : Int), R)) = impl_PowerMatrix_l0_g n n A (.inr ((0 : Int), (n : Int), (n : Int), (n : Int), (n : Int), R, A)) := fun R => by
    rw [show impl_PowerMatrix_l0_g n n A (.inl ((0 : Int), (n : Int), (n : Int), R)) = some (.inr ((n : Int), (n : Int), R)) from whileM_inr (T := fun s => (impl_PowerMatrix_l0_T n n A s).run) (by simp [impl_PowerMatrix_l0_T, Tree.run]),
      show impl_PowerMatrix_l0_g n n A (.inr ((0 : Int), (n : Int), (n : Int), (n : Int), (n : Int), R, A)) = some (.inr ((n : Int), (n : Int), R)) from whileM_inr (T := fun s => (impl_PowerMatrix_l0_T n n A s).run) (by simp [impl_PowerMatrix_l0_T, Tree.run])]
  by_cases h0 : p = 0
  · subst h0; exact zero R
  have d0 : decide ((0 : Int) < (p : Int)) = true := by simp; omega
  have dz : decide ((2 : Int) = 0) = false := by decide
  have t2 : Int.tmod (p : Int) 2 = ((p % 2 : Nat) : Int) := rfl
  have v2 : Int.tdiv (p : Int) 2 = ((p / 2 : Nat) : Int) := rfl
  have w2 : IntKind.i64.wrap (((p / 2 : Nat) : Int)) = ((p / 2 : Nat) : Int) := wN (by omega)
  have mI := mmI h1 hn hR hA fR fA
  have bI := mmI h1 hn hA hA fA fA
  generalize mulL n n n R A = R' at mI
  generalize mulL n n n A A = B' at bI
  have same : ∀ (x : Unit ⊕ (Int × Int × List Nat)), (impl_PowerMatrix_l0_T n n A (.inl ((p : Int), (n : Int), (n : Int), R))).run = some (.inr x) → (impl_PowerMatrix_l0_T n n A (.inr ((p : Int), (n : Int), (n : Int), (n : Int), (n : Int), R, A))).run = some (.inr x) →
      impl_PowerMatrix_l0_g n n A (.inl ((p : Int), (n : Int), (n : Int), R)) = impl_PowerMatrix_l0_g n n A (.inr ((p : Int), (n : Int), (n : Int), (n : Int), (n : Int), R, A)) := fun x s1 s2 => by
    rw [show impl_PowerMatrix_l0_g n n A (.inl ((p : Int), (n : Int), (n : Int), R)) = some x from whileM_inr (T := fun s => (impl_PowerMatrix_l0_T n n A s).run) s1, show impl_PowerMatrix_l0_g n n A (.inr ((p : Int), (n : Int), (n : Int), (n : Int), (n : Int), R, A)) = some x from whileM_inr (T := fun s => (impl_PowerMatrix_l0_T n n A s).run) s2]
  have next : ∀ s1 s2, impl_PowerMatrix_l0_g n n A s1 = impl_PowerMatrix_l0_g n n A s2 → (impl_PowerMatrix_l0_T n n A (.inl ((p : Int), (n : Int), (n : Int), R))).run = some (.inl s1) → (impl_PowerMatrix_l0_T n n A (.inr ((p : Int), (n : Int), (n : Int), (n : Int), (n : Int), R, A))).run = some (.inl s2) →
      impl_PowerMatrix_l0_g n n A (.inl ((p : Int), (n : Int), (n : Int), R)) = impl_PowerMatrix_l0_g n n A (.inr ((p : Int), (n : Int), (n : Int), (n : Int), (n : Int), R, A)) := fun s1 s2 he h1 h2 => by
    rw [show impl_PowerMatrix_l0_g n n A (.inl ((p : Int), (n : Int), (n : Int), R)) = impl_PowerMatrix_l0_g n n A s1 from whileM_inl (T := fun s => (impl_PowerMatrix_l0_T n n A s).run) h1 rfl,
      show impl_PowerMatrix_l0_g n n A (.inr ((p : Int), (n : Int), (n : Int), (n : Int), (n : Int), R, A)) = impl_PowerMatrix_l0_g n n A s2 from whileM_inl (T := fun s => (impl_PowerMatrix_l0_T n n A s).run) h2 rfl, he]
  by_cases hq : 0 < p / 2
  · have e2 : decide ((0 : Int) < ((p / 2 : Nat) : Int)) = true := by simp; omega
    cases fB' : B'.all sfin with
    | false =>
      rw [fB'] at bI
      cases e1 : decide (((p % 2 : Nat) : Int) = 1) with
      | false => exact same (.inl ()) (by simp only [impl_PowerMatrix_l0_T, Tree.run, d0, dz, t2, v2, w2, e1, e2, mI, bI, Option.bind_some, Bool.not_false, Bool.not_true, Bool.false_eq_true, if_false, if_true]) (by simp only [impl_PowerMatrix_l0_T, Tree.run, d0, dz, t2, v2, w2, e1, e2, mI, bI, Option.bind_some, Bool.not_false, Bool.not_true, Bool.false_eq_true, if_false, if_true])
      | true =>
        cases fR' : R'.all sfin with
        | false => rw [fR'] at mI; exact same (.inl ()) (by simp only [impl_PowerMatrix_l0_T, Tree.run, d0, dz, t2, v2, w2, e1, e2, mI, bI, Option.bind_some, Bool.not_false, Bool.not_true, Bool.false_eq_true, if_false, if_true]) (by simp only [impl_PowerMatrix_l0_T, Tree.run, d0, dz, t2, v2, w2, e1, e2, mI, bI, Option.bind_some, Bool.not_false, Bool.not_true, Bool.false_eq_true, if_false, if_true])
        | true => rw [fR'] at mI; exact same (.inl ()) (by simp only [impl_PowerMatrix_l0_T, Tree.run, d0, dz, t2, v2, w2, e1, e2, mI, bI, Option.bind_some, Bool.not_false, Bool.not_true, Bool.false_eq_true, if_false, if_true]) (by simp only [impl_PowerMatrix_l0_T, Tree.run, d0, dz, t2, v2, w2, e1, e2, mI, bI, Option.bind_some, Bool.not_false, Bool.not_true, Bool.false_eq_true, if_false, if_true])
    | true =>
      rw [fB'] at bI
      cases e1 : decide (((p % 2 : Nat) : Int) = 1) with
      | false => exact next (.inr (((p / 2 : Nat) : Int), (n : Int), (n : Int), (n : Int), (n : Int), R, B')) _ rfl (by simp only [impl_PowerMatrix_l0_T, Tree.run, d0, dz, t2, v2, w2, e1, e2, mI, bI, Option.bind_some, Bool.not_false, Bool.not_true, Bool.false_eq_true, if_false, if_true]) (by simp only [impl_PowerMatrix_l0_T, Tree.run, d0, dz, t2, v2, w2, e1, e2, mI, bI, Option.bind_some, Bool.not_false, Bool.not_true, Bool.false_eq_true, if_false, if_true])
      | true =>
        cases fR' : R'.all sfin with
        | false => rw [fR'] at mI; exact same (.inl ()) (by simp only [impl_PowerMatrix_l0_T, Tree.run, d0, dz, t2, v2, w2, e1, e2, mI, bI, Option.bind_some, Bool.not_false, Bool.not_true, Bool.false_eq_true, if_false, if_true]) (by simp only [impl_PowerMatrix_l0_T, Tree.run, d0, dz, t2, v2, w2, e1, e2, mI, bI, Option.bind_some, Bool.not_false, Bool.not_true, Bool.false_eq_true, if_false, if_true])
        | true => rw [fR'] at mI; exact next (.inr (((p / 2 : Nat) : Int), (n : Int), (n : Int), (n : Int), (n : Int), R', B')) _ rfl (by simp only [impl_PowerMatrix_l0_T, Tree.run, d0, dz, t2, v2, w2, e1, e2, mI, bI, Option.bind_some, Bool.not_false, Bool.not_true, Bool.false_eq_true, if_false, if_true]) (by simp only [impl_PowerMatrix_l0_T, Tree.run, d0, dz, t2, v2, w2, e1, e2, mI, bI, Option.bind_some, Bool.not_false, Bool.not_true, Bool.false_eq_true, if_false, if_true])
  · have hp1 : p = 1 := by omega
    subst hp1
    have e2 : decide ((0 : Int) < ((1 / 2 : Nat) : Int)) = false := by decide
    have e1 : decide (((1 % 2 : Nat) : Int) = 1) = true := by decide
    cases fR' : R'.all sfin with
    | false =>
      rw [fR'] at mI
      exact same (.inl ()) (by simp only [impl_PowerMatrix_l0_T, Tree.run, d0, dz, t2, v2, w2, e1, mI, Option.bind_some, Bool.not_false, Bool.not_true, Bool.false_eq_true, if_false, if_true]) (by simp only [impl_PowerMatrix_l0_T, Tree.run, d0, dz, t2, v2, w2, e1, mI, Option.bind_some, Bool.not_false, Bool.not_true, Bool.false_eq_true, if_false, if_true])
    | true =>
      rw [fR'] at mI
      exact next (.inl (((1 / 2 : Nat) : Int), (n : Int), (n : Int), R')) (.inr (((1 / 2 : Nat) : Int), (n : Int), (n : Int), (n : Int), (n : Int), R', A)) (by have h := zero R'; rw [show ((1 / 2 : Nat) : Int) = 0 from by decide]; exact h) (by simp only [impl_PowerMatrix_l0_T, Tree.run, d0, dz, t2, v2, w2, e1, e2, mI, Option.bind_some, Bool.not_false, Bool.not_true, Bool.false_eq_true, if_false, if_true])
        (by simp only [impl_PowerMatrix_l0_T, Tree.run, d0, dz, t2, v2, w2, e1, e2, mI, Option.bind_some, Bool.not_false, Bool.not_true, Bool.false_eq_true, if_false, if_true])
theorem sfin_one : sfin 1065353216 = true := by kernel_rfl
theorem sfin_zero : sfin 0 = true := by kernel_rfl
theorem unit_fin (n : Nat) : (unitL n).all sfin = true := by
  rw [List.all_eq_true]
  intro v hv
  unfold unitL rc at hv
  obtain ⟨p, _, rfl⟩ := List.mem_map.1 hv
  simp only
  split
  · exact sfin_one
  · exact sfin_zero
theorem pw_both (r c : Int) (x : List Nat) (w : Int) (hx : x.length ≤ maxN) (hw : -9223372036854775808 ≤ w ∧ w < 9223372036854775808) : ∃ o, impl_PowerMatrix_g r c x w = some o ∧ spec_PowerMatrix_g r c x w = some o ∧ ∀ d, o = .inr d → d.2.2.length ≤ 144 := by
  have qI := sqI r c x hx
  have qS := sqS r c x hx
  cases hv : (vm r c x && decide (r = c)) with
  | false =>
    rw [hv] at qI qS
    exact ⟨.inl (), by simp [impl_PowerMatrix_g, impl_PowerMatrix_T, Tree.run, qI], by simp [spec_PowerMatrix_g, spec_PowerMatrix_T, Tree.run, qS], fun d h => by cases h⟩
  | true =>
  rw [hv] at qI qS
  simp only [Bool.and_eq_true, decide_eq_true_eq] at hv
  obtain ⟨hv, rfl⟩ := hv
  obtain ⟨n, m, rfl, e, a1, a2, a3, a4, a5, a6⟩ := vm_shape hv
  have e : n = m := by omega
  subst e
  have hb2 := le144 a2 a2
  have hin : impl_inRange_v w 0 64 = spec_l00In_v w 0 64 := rfl
  cases hi : spec_l00In_v w 0 64 with
  | false =>
    exact ⟨.inl (), by simp [impl_PowerMatrix_g, impl_PowerMatrix_T, Tree.run, qI, hin, hi], by simp [spec_PowerMatrix_g, spec_PowerMatrix_T, Tree.run, qS, hi], fun d h => by cases h⟩
  | true =>
    obtain ⟨p, rfl, hp⟩ : ∃ p : Nat, w = (p : Int) ∧ p ≤ 64 := by
      simp [spec_l00In_v] at hi
      exact ⟨w.toNat, by omega, by omega⟩
    obtain ⟨o, g1, g2, g3⟩ := pm1 (A := x) a1 a2 p (unitL n) x hp (by simp) a5 (unit_fin n) a6
    rw [← pm0 a1 a2 p hp a5 (by simp) a6 (unit_fin n)] at g1
    have q2 : fits x.length = true := fitsN (by omega)
    refine ⟨o, ?_, ?_, fun d h => by have := (g3 d h).2.2; omega⟩
    · simp only [impl_PowerMatrix_g, impl_PowerMatrix_T, Tree.run, qI, hin, hi, unitI a2, g1, Option.bind_some, Bool.not_true, Bool.false_eq_true, if_false, if_true]
      cases o <;> simp [Tree.run]
    · simp only [spec_PowerMatrix_g, spec_PowerMatrix_T, spec_l02Own_g, spec_l02Own_T, Tree.run, qS, hi, unitS a2, List.nil_append, q2, g2, Option.bind_some, Bool.not_true, Bool.false_eq_true, if_false, if_true]
      cases o <;> simp [Tree.run]
theorem pw_law (x0 : Int) (x1 : Int) (x2 : List Nat) (x3 : Int) (h0 : -9223372036854775808 ≤ x0 ∧ x0 < 9223372036854775808) (h1 : -9223372036854775808 ≤ x1 ∧ x1 < 9223372036854775808) (h2 : x2.length ≤ maxN) (h3 : -9223372036854775808 ≤ x3 ∧ x3 < 9223372036854775808) : laws_FnExactPowerMatrix_g x0 x1 x2 x3 = some true := by
  have q2 := h2
  unfold maxN at q2
  obtain ⟨r, i1, i2, i3⟩ := pw_both x0 x1 x2 x3 h2 h3
  have enM := eqM_self 0 0 [] (by simp [maxN])
  have hnM := heldM_nil 1 (by omega) (by omega)
  have m2 := markM_ok x2 (1) h2 (by omega) (by omega)
  have g1 : decide (((1 : Int) + x2.length : Int) < 0) = false := by simp; omega
  cases z0 : decide (laws_szMatrix_v x2 (1048576) < 0)
  case true => simp only [laws_FnExactPowerMatrix_g, laws_FnExactPowerMatrix_T, Tree.run, z0, decide_false, Bool.false_eq_true, if_false, if_true] <;> simp [Tree.run, z0]
  cases r with
  | inl u =>
    simp only [laws_FnExactPowerMatrix_g, laws_FnExactPowerMatrix_T, Tree.run, i1, i2, enM, hnM, markM_nil, m2, toM_ok x0 x1 x2 h2, eqM_self x0 x1 x2 h2, g1, z0, Option.bind_some, Bool.false_eq_true, if_false, if_true, decide_true, Bool.not_true, Bool.not_false, beq_self_eq_true, marks_length]
    first | done | simp [Tree.run]
  | inr d =>
    obtain ⟨a0, b0, d0_⟩ := d
    have hd := i3 _ rfl
    simp only at hd
    have e0 := hd
    have hd0 : d0_.length ≤ maxN := by unfold maxN; omega
    have md0 := markM_ok d0_ (1) hd0 (by omega) (by omega)
    have hl0 := heldM_ok (1) d0_.length hd0 (by omega) (by omega)
    have g20 : decide (((1 : Int) + d0_.length : Int) < 0) = false := by simp; omega
    simp only [laws_FnExactPowerMatrix_g, laws_FnExactPowerMatrix_T, Tree.run, i1, i2, enM, hnM, markM_nil, m2, toM_ok x0 x1 x2 h2, eqM_self x0 x1 x2 h2, g1, z0, md0, hl0, g20, eqM_self a0 b0 d0_ hd0, Option.bind_some, Bool.false_eq_true, if_false, if_true, decide_true, Bool.not_true, Bool.not_false, beq_self_eq_true, marks_length]
    first | done | simp [Tree.run]
theorem pw_lawL (x0 : Int) (x1 : Int) (x2 : Nat) (x3 : Int) (h0 : -9223372036854775808 ≤ x0 ∧ x0 < 9223372036854775808) (h1 : -9223372036854775808 ≤ x1 ∧ x1 < 9223372036854775808) (h2 : x2 < 9223372036854775808) (h3 : -9223372036854775808 ≤ x3 ∧ x3 < 9223372036854775808) (big : maxN < x2) : laws_FnExactPowerMatrix_len_g x2 = some true := by
  unfold maxN at big
  by_cases k2 : (1048576 : Int) < (x2 : Int)
  · have e := szM_len1 x2 (1048576) h2 (by omega) (by omega) k2
    simp [laws_FnExactPowerMatrix_len_g, laws_FnExactPowerMatrix_len_T, Tree.run, e]
  have e2 := szM_len0 x2 (1048576) h2 (by omega) (by omega) k2
  have g2 : decide ((1048576 - (x2 : Int)) < 0) = false := by simp; omega
  omega
end Go.Proofs.Ytooakheodgndaaa.AM
