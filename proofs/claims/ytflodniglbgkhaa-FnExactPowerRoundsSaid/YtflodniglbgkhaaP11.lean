/- Rounds of products. -/
import Derived.Test.YtflodniglbgkhaaP5
import Derived.Test.YtflodniglbgkhaaD22
set_option linter.unusedSimpArgs false
set_option linter.unusedVariables false
namespace Go.Proofs.Ytflodniglbgkhaa.AM

theorem vecI1 {n : Nat} {v : List Nat} (h1 : 1 ≤ n) (hn : n ≤ 12) (hv : v.length = n) : impl_IsVector_g v = some (v.all sfin) := by
  have h := isVecI v (by unfold maxN; omega)
  have c1 : decide ((1 : Int) ≤ (v.length : Int)) = true := decide_eq_true (by omega)
  have c2 : decide ((v.length : Int) ≤ 256) = true := decide_eq_true (by omega)
  rw [c1, c2] at h
  simpa using h
theorem vecS1 {n : Nat} {v : List Nat} (h1 : 1 ≤ n) (hn : n ≤ 12) (hv : v.length = n) : spec_l02Vector_g v = some (v.all sfin) := by
  have h := isVecS v (by unfold maxN; omega)
  have c1 : decide ((1 : Int) ≤ (v.length : Int)) = true := decide_eq_true (by omega)
  have c2 : decide ((v.length : Int) ≤ 256) = true := decide_eq_true (by omega)
  rw [c1, c2] at h
  simpa using h
theorem tvI {n : Nat} {A v : List Nat} (h1 : 1 ≤ n) (hn : n ≤ 12) (hA : A.length = n * n) (fA : A.all sfin = true) (hv : v.length = n) (fv : v.all sfin = true) :
    impl_TimesVector_g n n A v = some (if (timesL n n A v).all sfin = true then .inr (timesL n n A v) else .inl ()) := by
  have hb := le144 hn hn
  have vI := vmI n n A (by unfold maxN; omega)
  rw [vm_nat h1 hn h1 hn hA, fA] at vI
  have bI := vecI1 h1 hn hv
  rw [fv] at bI
  have hd : decide (impl_lengthF_v v = (n : Int)) = true := decide_eq_true (by show (v.length : Int) = n; omega)
  have tI := timesI n n A v hA hv (by unfold maxN; omega) (by unfold maxN; omega) (by unfold maxN; omega) h1
  have hl := timesL_length n n A v
  generalize timesL n n A v = d at tI hl
  have aF := allFinI d (by unfold maxN; omega)
  simp only [impl_TimesVector_g, impl_TimesVector_T, Tree.run, vI, bI, hd, tI, aF, Option.bind_some, Bool.not_true, Bool.false_eq_true, if_false]
  split <;> simp [Tree.run]
theorem tvS {n : Nat} {A v : List Nat} (h1 : 1 ≤ n) (hn : n ≤ 12) (hA : A.length = n * n) (fA : A.all sfin = true) (hv : v.length = n) (fv : v.all sfin = true) :
    spec_TimesVector_g n n A v = some (if (timesL n n A v).all sfin = true then .inr (timesL n n A v) else .inl ()) := by
  have hb := le144 hn hn
  have vS := vmS n n A (by unfold maxN; omega)
  rw [vm_nat h1 hn h1 hn hA, fA] at vS
  have bS := vecS1 h1 hn hv
  rw [fv] at bS
  have hd : decide ((v.length : Int) = (n : Int)) = true := decide_eq_true (by omega)
  have tS := timesS n n A v hA hv (by unfold maxN; omega) (by unfold maxN; omega) (by unfold maxN; omega)
  have hl := timesL_length n n A v
  generalize timesL n n A v = d at tS hl
  have lS := listS d (by unfold maxN; omega)
  simp only [spec_TimesVector_g, spec_TimesVector_T, Tree.run, vS, bS, hd, tS, lS, Option.bind_some, Bool.not_true, Bool.false_eq_true, if_false]
  split <;> simp [Tree.run]
noncomputable def unL (n y : Nat) (w : List Nat) : List Nat := (List.range n).map fun i => fdiv .f32 (nth w i) y
@[simp] theorem unL_length (n y : Nat) (w : List Nat) : (unL n y w).length = n := by simp [unL]
noncomputable def sqs (n : Nat) (w : List Nat) : Nat := dotN (fun i => fmul .f32 (nth w i) (nth w i)) n
noncomputable def unitR (n : Nat) (w : List Nat) : Unit ⊕ List Nat :=
  if (sfin (sqs n w) && fgrt .f32 (sqs n w) 0) = true then (if (unL n (rt2 (sqs n w)) w).all sfin = true then .inr (unL n (rt2 (sqs n w)) w) else .inl ()) else .inl ()
theorem uvI {n : Nat} {w : List Nat} (h1 : 1 ≤ n) (hn : n ≤ 12) (hw : w.length = n) (fw : w.all sfin = true) : impl_UnitVector_g w = some (unitR n w) := by
  have bI := vecI1 h1 hn hw
  rw [fw] at bI
  have dI := dotI w w (Nat.le_refl _) (by unfold maxN; omega)
  rw [hw] at dI
  have dI : impl_dot_g w w = some (sqs n w) := dI
  unfold unitR
  generalize sqs n w = d at dI
  have rI := rootI d _ (rt2_ok d)
  have g : impl_UnitVector_l0_g w (rt2 d) ((0 : Int), ([] : List Nat)) = some (unL n (rt2 d) w) := by
    unfold unL
    refine app_gen (T := fun s => (impl_UnitVector_l0_T w (rt2 d) s).run) ?_ ?_
    · intro i s hi hs
      simp only [impl_UnitVector_l0_T, Tree.run, hw, lt_nat, hi, decide_true, if_true, inb_nat, Int.toNat_natCast, w1 (show i ≤ 1000 by omega)]
      rw [if_pos (fitsN (by simp; omega))]
    · intro s; simp [impl_UnitVector_l0_T, Tree.run, hw]
  have hl := unL_length n (rt2 d) w
  generalize unL n (rt2 d) w = U at g hl
  have aF := allFinI U (by unfold maxN; omega)
  cases h2 : sfin d with
  | false => simp only [impl_UnitVector_g, impl_UnitVector_T, Tree.run, bI, dI, finI, h2, Option.bind_some, Bool.not_true, Bool.not_false, Bool.false_eq_true, if_false, if_true, Bool.false_and]
  | true =>
    cases h3 : fgrt .f32 d 0 with
    | false => simp only [impl_UnitVector_g, impl_UnitVector_T, Tree.run, bI, dI, finI, h2, h3, Option.bind_some, Bool.not_true, Bool.not_false, Bool.false_eq_true, if_false, if_true, Bool.and_false]
    | true =>
      simp only [impl_UnitVector_g, impl_UnitVector_T, Tree.run, bI, dI, finI, h2, h3, rI, g, aF, Option.bind_some, Bool.not_true, Bool.not_false, Bool.false_eq_true, if_false, if_true, Bool.and_self]
      split <;> simp [Tree.run]
theorem uvS {n : Nat} {w : List Nat} (h1 : 1 ≤ n) (hn : n ≤ 12) (hw : w.length = n) (fw : w.all sfin = true) : spec_UnitVector_g w = some (unitR n w) := by
  have bS := vecS1 h1 hn hw
  rw [fw] at bS
  have dS := dotS w w (Nat.le_refl _) (by unfold maxN; omega)
  rw [hw] at dS
  have dS : spec_l02Dot_g w w = some (sqs n w) := dS
  unfold unitR
  generalize sqs n w = d at dS
  have rS := rootS d _ (rt2_ok d)
  have g : spec_l04Unit_l0_g w (rt2 d) ((0 : Int), ([] : List Nat)) = some (unL n (rt2 d) w) := by
    unfold unL
    refine app_gen (T := fun s => (spec_l04Unit_l0_T w (rt2 d) s).run) ?_ ?_
    · intro i s hi hs
      simp only [spec_l04Unit_l0_T, Tree.run, hw, lt_nat, hi, decide_true, if_true, inb_nat, Int.toNat_natCast, w1 (show i ≤ 1000 by omega)]
      rw [if_pos (fitsN (by simp; omega))]
    · intro s; simp [spec_l04Unit_l0_T, Tree.run, hw]
  have hl := unL_length n (rt2 d) w
  rw [root_test d]
  generalize unL n (rt2 d) w = U at g hl
  have lS := listS U (by unfold maxN; omega)
  cases h3 : fgrt .f32 (rt2 d) 0 with
  | false => simp only [spec_UnitVector_g, spec_UnitVector_T, spec_l04Unit_g, spec_l04Unit_T, Tree.run, bS, dS, rS, h3, Option.bind_some, Bool.not_true, Bool.not_false, Bool.false_eq_true, if_false, if_true, Bool.false_and]
  | true =>
    cases h2 : sfin (rt2 d) with
    | false => simp only [spec_UnitVector_g, spec_UnitVector_T, spec_l04Unit_g, spec_l04Unit_T, Tree.run, bS, dS, rS, h3, g, finS, h2, Option.bind_some, Bool.not_true, Bool.not_false, Bool.false_eq_true, if_false, if_true, Bool.and_false]
    | true =>
      simp only [spec_UnitVector_g, spec_UnitVector_T, spec_l04Unit_g, spec_l04Unit_T, Tree.run, bS, dS, rS, h3, g, finS, h2, lS, Option.bind_some, Bool.not_true, Bool.not_false, Bool.false_eq_true, if_false, if_true, Bool.and_self]
      split <;> simp [Tree.run]
theorem unitR_ok {n : Nat} {w u : List Nat} (h : unitR n w = .inr u) : u.length = n ∧ u.all sfin = true := by
  unfold unitR at h
  split at h
  · split at h
    · rename_i h2; cases h; exact ⟨by simp, h2⟩
    · cases h
  · cases h
theorem ray_both {n : Nat} {A v : List Nat} (h1 : 1 ≤ n) (hn : n ≤ 12) (hA : A.length = n * n) (fA : A.all sfin = true) (hv : v.length = n) (fv : v.all sfin = true) : ∃ o, impl_RayleighOf_g n n A v = some o ∧ spec_RayleighOf_g n n A v = some o := by
  have hb := le144 hn hn
  have tI := tvI h1 hn hA fA hv fv
  have tS := tvS h1 hn hA fA hv fv
  have hl := timesL_length n n A v
  generalize timesL n n A v = L at tI tS hl
  have qS := sqS n n A (by unfold maxN; omega)
  rw [vm_nat h1 hn h1 hn hA, fA] at qS
  simp only [decide_true, Bool.and_self] at qS
  have d1I := dotI v v (Nat.le_refl _) (by unfold maxN; omega)
  have d1S := dotS v v (Nat.le_refl _) (by unfold maxN; omega)
  generalize dotN (fun i => fmul .f32 (nth v i) (nth v i)) v.length = d at d1I d1S
  have d2I := dotI v L (by omega) (by unfold maxN; omega)
  have d2S := dotS v L (by omega) (by unfold maxN; omega)
  generalize dotN (fun i => fmul .f32 (nth v i) (nth L i)) v.length = g at d2I d2S
  cases fL : L.all sfin with
  | false =>
    rw [fL] at tI tS
    exact ⟨.inl (), by simp [impl_RayleighOf_g, impl_RayleighOf_T, Tree.run, tI], by simp [spec_RayleighOf_g, spec_RayleighOf_T, Tree.run, qS, tS]⟩
  | true =>
    rw [fL] at tI tS
    simp only [if_true] at tI tS
    cases hz : feq .f32 d 0 with
    | true =>
      refine ⟨.inl (), ?_, ?_⟩
      · simp only [impl_RayleighOf_g, impl_RayleighOf_T, Tree.run, tI, d1I, hz, decide_true, Option.bind_some, Bool.not_true, Bool.false_eq_true, if_false, if_true]
      · simp only [spec_RayleighOf_g, spec_RayleighOf_T, Tree.run, qS, tS, d1S, hz, Option.bind_some, Bool.not_true, Bool.false_eq_true, if_false, if_true]
    | false =>
      refine ⟨if sfin (fdiv .f32 g d) = true then .inr (fdiv .f32 g d) else .inl (), ?_, ?_⟩
      · simp only [impl_RayleighOf_g, impl_RayleighOf_T, impl_finite_v, finI, Tree.run, tI, d1I, d2I, hz, decide_true, Option.bind_some, Bool.not_true, Bool.false_eq_true, if_false, if_true]
        by_cases hf : sfin (fdiv .f32 g d) = true <;> simp [hf, Tree.run]
      · simp only [spec_RayleighOf_g, spec_RayleighOf_T, spec_l02Number_v, finS, Tree.run, qS, tS, d1S, d2S, hz, Option.bind_some, Bool.not_true, Bool.false_eq_true, if_false, if_true]
        by_cases hf : sfin (fdiv .f32 g d) = true <;> simp [hf, Tree.run]
theorem prLoop {n w : Nat} {A : List Nat} (h1 : 1 ≤ n) (hn : n ≤ 12) (hw : w ≤ 64) (hA : A.length = n * n) (fA : A.all sfin = true) : ∀ (t k : Nat) (v : List Nat), k + t = w → v.length = n → v.all sfin = true →
    ∃ o o', impl_PowerRounds_l0_1_g n n A w (.inl ((k : Int), v)) = some o ∧ spec_PowerRounds_l0_g n n A w ((k : Int), v) = some o' ∧
        ((∃ u, o = .inr (.inl u) ∧ o' = .inr u ∧ u.length = n ∧ u.all sfin = true) ∨ ((o = .inl () ∨ o = .inr (.inr ())) ∧ o' = .inl ())) := by
  intro t
  induction t with
  | zero =>
    intro k v hk hv fv
    have : k = w := by omega
    subst this
    exact ⟨_, _, whileM_inr (T := fun s => (impl_PowerRounds_l0_1_T n n A k s).run) (r := .inr (.inl v)) (by simp [impl_PowerRounds_l0_1_T, Tree.run]), whileM_inr (T := fun s => (spec_PowerRounds_l0_T n n A k s).run) (r := .inr v) (by simp [spec_PowerRounds_l0_T, Tree.run]), .inl ⟨v, rfl, rfl, hv, fv⟩⟩
  | succ t ih =>
    intro k v hk hv fv
    have hkw : k < w := by omega
    have tI := tvI h1 hn hA fA hv fv
    have tS := tvS h1 hn hA fA hv fv
    have hl := timesL_length n n A v
    generalize timesL n n A v = L at tI tS hl
    cases fL : L.all sfin with
    | false =>
      rw [fL] at tI tS
      refine ⟨.inl (), .inl (), whileM_inr (T := fun s => (impl_PowerRounds_l0_1_T n n A w s).run) ?_, whileM_inr (T := fun s => (spec_PowerRounds_l0_T n n A w s).run) ?_, .inr ⟨.inl rfl, rfl⟩⟩
      · simp only [impl_PowerRounds_l0_1_T, Tree.run, lt_nat, hkw, decide_true, if_true, tI, Option.bind_some, Bool.false_eq_true, if_false]
      · simp only [spec_PowerRounds_l0_T, Tree.run, lt_nat, hkw, decide_true, if_true, tS, Option.bind_some, Bool.false_eq_true, if_false]
    | true =>
      rw [fL] at tI tS
      simp only [if_true] at tI tS
      have uI := uvI h1 hn hl fL
      have uS := uvS h1 hn hl fL
      cases hu : unitR n L with
      | inl u =>
        rw [hu] at uI uS
        have s2 : (spec_PowerRounds_l0_T n n A w ((k : Int), v)).run = some (.inr (.inl ())) := by
          simp only [spec_PowerRounds_l0_T, Tree.run, lt_nat, hkw, decide_true, if_true, tS, uS, Option.bind_some]
        have s1 : (impl_PowerRounds_l0_1_T n n A w (.inl ((k : Int), v))).run = some (.inl (.inr ((k + 1 : Nat) : Int))) := by
          simp only [impl_PowerRounds_l0_1_T, Tree.run, lt_nat, hkw, decide_true, if_true, tI, uI, Option.bind_some, w1 (show k ≤ 1000 by omega)]
        by_cases hk1 : k + 1 < w
        · exact ⟨_, _, whileM_inl (T := fun s => (impl_PowerRounds_l0_1_T n n A w s).run) s1 (whileM_inr (T := fun s => (impl_PowerRounds_l0_1_T n n A w s).run) (r := .inl ()) (by simp only [impl_PowerRounds_l0_1_T, Tree.run, lt_nat, hk1, decide_true, if_true])), whileM_inr (T := fun s => (spec_PowerRounds_l0_T n n A w s).run) s2, .inr ⟨.inl rfl, rfl⟩⟩
        · exact ⟨_, _, whileM_inl (T := fun s => (impl_PowerRounds_l0_1_T n n A w s).run) s1 (whileM_inr (T := fun s => (impl_PowerRounds_l0_1_T n n A w s).run) (r := .inr (.inr ())) (by simp only [impl_PowerRounds_l0_1_T, Tree.run, lt_nat, hk1, decide_false, Bool.false_eq_true, if_false])), whileM_inr (T := fun s => (spec_PowerRounds_l0_T n n A w s).run) s2, .inr ⟨.inr rfl, rfl⟩⟩
      | inr u =>
        rw [hu] at uI uS
        obtain ⟨u1, u2⟩ := unitR_ok hu
        obtain ⟨o, o', g1, g2, g3⟩ := ih (k + 1) u (by omega) u1 u2
        refine ⟨o, o', whileM_inl (T := fun s => (impl_PowerRounds_l0_1_T n n A w s).run) ?_ g1, whileM_inl (T := fun s => (spec_PowerRounds_l0_T n n A w s).run) ?_ g2, g3⟩
        · simp only [impl_PowerRounds_l0_1_T, Tree.run, lt_nat, hkw, decide_true, if_true, tI, uI, Option.bind_some, w1 (show k ≤ 1000 by omega)]
        · simp only [spec_PowerRounds_l0_T, Tree.run, lt_nat, hkw, decide_true, if_true, tS, uS, Option.bind_some, w1 (show k ≤ 1000 by omega)]
theorem pr_both (r c : Int) (x b : List Nat) (w : Int) (hx : x.length ≤ maxN) (hb : b.length ≤ maxN) (hw : -9223372036854775808 ≤ w ∧ w < 9223372036854775808) : ∃ o, impl_PowerRounds_g r c x b w = some o ∧ spec_PowerRounds_g r c x b w = some o ∧ ∀ d, o = .inr d → d.2.length ≤ 144 := by
  have qI := sqI r c x hx
  have qS := sqS r c x hx
  cases hv : (vm r c x && decide (r = c)) with
  | false =>
    rw [hv] at qI qS
    exact ⟨.inl (), by simp [impl_PowerRounds_g, impl_PowerRounds_T, Tree.run, qI], by simp [spec_PowerRounds_g, spec_PowerRounds_T, Tree.run, qS], fun d h => by cases h⟩
  | true =>
  rw [hv] at qI qS
  simp only [Bool.and_eq_true, decide_eq_true_eq] at hv
  obtain ⟨hv, rfl⟩ := hv
  obtain ⟨n, m, rfl, e, a1, a2, a3, a4, a5, a6⟩ := vm_shape hv
  have e : n = m := by omega
  subst e
  have bI := isVecI b hb
  have bS := isVecS b hb
  cases hbv : (decide ((1 : Int) ≤ b.length) && decide ((b.length : Int) ≤ 256) && b.all sfin) with
  | false =>
    rw [hbv] at bI bS
    exact ⟨.inl (), by simp [impl_PowerRounds_g, impl_PowerRounds_T, Tree.run, qI, bI], by simp [spec_PowerRounds_g, spec_PowerRounds_T, Tree.run, qS, bS], fun d h => by cases h⟩
  | true =>
  rw [hbv] at bI bS
  by_cases hbr : (b.length : Int) = (n : Int)
  case neg =>
    have hdI : decide (impl_lengthF_v b = (n : Int)) = false := decide_eq_false hbr
    have hdS : decide ((b.length : Int) = (n : Int)) = false := decide_eq_false hbr
    exact ⟨.inl (), by simp only [impl_PowerRounds_g, impl_PowerRounds_T, Tree.run, qI, bI, hdI, Option.bind_some, Bool.not_true, Bool.not_false, Bool.false_eq_true, if_false, if_true],
      by simp only [spec_PowerRounds_g, spec_PowerRounds_T, Tree.run, qS, bS, hdS, Option.bind_some, Bool.not_true, Bool.not_false, Bool.false_eq_true, if_false, if_true], fun d h => by cases h⟩
  have hbl : b.length = n := by omega
  have hdI : decide (impl_lengthF_v b = (n : Int)) = true := decide_eq_true hbr
  have hdS : decide ((b.length : Int) = (n : Int)) = true := decide_eq_true hbr
  have fb : b.all sfin = true := by simp only [Bool.and_eq_true] at hbv; exact hbv.2
  have hin : impl_isRounds_v w = spec_l04Rounds_v w := rfl
  cases hi : spec_l04Rounds_v w with
  | false =>
    exact ⟨.inl (), by simp only [impl_PowerRounds_g, impl_PowerRounds_T, Tree.run, qI, bI, hdI, hin, hi, Option.bind_some, Bool.not_true, Bool.not_false, Bool.false_eq_true, if_false, if_true],
      by simp only [spec_PowerRounds_g, spec_PowerRounds_T, Tree.run, qS, bS, hdS, hi, Option.bind_some, Bool.not_true, Bool.not_false, Bool.false_eq_true, if_false, if_true], fun d h => by cases h⟩
  | true =>
    obtain ⟨p, rfl, hp⟩ : ∃ p : Nat, w = (p : Int) ∧ p ≤ 64 := by
      simp [spec_l04Rounds_v, spec_l00In_v] at hi
      exact ⟨w.toNat, by omega, by omega⟩
    have uI := uvI a1 a2 hbl fb
    have uS := uvS a1 a2 hbl fb
    cases hu : unitR n b with
    | inl u =>
      rw [hu] at uI uS
      have l0 : ∃ o, impl_PowerRounds_l0_g p () = some o := by
        by_cases h0 : (0 : Int) < (p : Int)
        · exact ⟨_, whileM_inr (T := fun s => (impl_PowerRounds_l0_T p s).run) (r := .inl ()) (by simp [impl_PowerRounds_l0_T, Tree.run]; omega)⟩
        · exact ⟨_, whileM_inr (T := fun s => (impl_PowerRounds_l0_T p s).run) (r := .inr ()) (by simp [impl_PowerRounds_l0_T, Tree.run]; omega)⟩
      obtain ⟨o, ho⟩ := l0
      refine ⟨.inl (), ?_, ?_, fun d h => by cases h⟩
      · simp only [impl_PowerRounds_g, impl_PowerRounds_T, Tree.run, qI, bI, hdI, hin, hi, uI, ho, Option.bind_some, Bool.not_true, Bool.not_false, Bool.false_eq_true, if_false, if_true]
        cases o <;> simp [Tree.run]
      · simp only [spec_PowerRounds_g, spec_PowerRounds_T, Tree.run, qS, bS, hdS, hi, uS, Option.bind_some, Bool.not_true, Bool.not_false, Bool.false_eq_true, if_false, if_true]
    | inr u =>
      rw [hu] at uI uS
      obtain ⟨u1, u2⟩ := unitR_ok hu
      obtain ⟨o, o', g1, g2, g3⟩ := prLoop (w := p) a1 a2 hp a5 a6 p 0 u (by omega) u1 u2
      have g1 : impl_PowerRounds_l0_1_g n n x p (.inl ((0 : Int), u)) = some o := g1
      have g2 : spec_PowerRounds_l0_g n n x p ((0 : Int), u) = some o' := g2
      rcases g3 with ⟨z, rfl, rfl, z1, z2⟩ | ⟨h, rfl⟩
      · obtain ⟨q, r1, r2⟩ := ray_both a1 a2 a5 a6 z1 z2
        refine ⟨match q with | .inl _ => .inl () | .inr y => .inr (y, z), ?_, ?_, ?_⟩
        · simp only [impl_PowerRounds_g, impl_PowerRounds_T, Tree.run, qI, bI, hdI, hin, hi, uI, g1, r1, Option.bind_some, Bool.not_true, Bool.not_false, Bool.false_eq_true, if_false, if_true]
          cases q <;> simp [Tree.run]
        · simp only [spec_PowerRounds_g, spec_PowerRounds_T, Tree.run, qS, bS, hdS, hi, uS, g2, r2, Option.bind_some, Bool.not_true, Bool.not_false, Bool.false_eq_true, if_false, if_true]
          cases q <;> simp [Tree.run]
        · intro d h
          cases q with
          | inl _ => cases h
          | inr y => cases h; simp only; omega
      · refine ⟨.inl (), ?_, ?_, fun d h => by cases h⟩
        · rcases h with rfl | rfl <;>
          simp only [impl_PowerRounds_g, impl_PowerRounds_T, Tree.run, qI, bI, hdI, hin, hi, uI, g1, Option.bind_some, Bool.not_true, Bool.not_false, Bool.false_eq_true, if_false, if_true]
        · simp only [spec_PowerRounds_g, spec_PowerRounds_T, Tree.run, qS, bS, hdS, hi, uS, g2, Option.bind_some, Bool.not_true, Bool.not_false, Bool.false_eq_true, if_false, if_true]
theorem pr_law (x0 : Int) (x1 : Int) (x2 : List Nat) (x3 : List Nat) (x4 : Int) (h0 : -9223372036854775808 ≤ x0 ∧ x0 < 9223372036854775808) (h1 : -9223372036854775808 ≤ x1 ∧ x1 < 9223372036854775808) (h2 : x2.length ≤ maxN) (h3 : x3.length ≤ maxN) (h4 : -9223372036854775808 ≤ x4 ∧ x4 < 9223372036854775808) : laws_FnExactPowerRounds_g x0 x1 x2 x3 x4 = some true := by
  have q2 := h2
  have q3 := h3
  unfold maxN at q2 q3
  obtain ⟨r, i1, i2, i3⟩ := pr_both x0 x1 x2 x3 x4 h2 h3 h4
  have en := eqF_self [] (by simp [maxN])
  have hn := held_nil 1 (by omega) (by omega)
  have m2 := markM_ok x2 (1) h2 (by omega) (by omega)
  have m3 := mark_ok x3 (1 + x2.length) h3 (by omega) (by omega)
  have g1 : decide (((1 : Int) + x2.length + x3.length : Int) < 0) = false := by simp; omega
  by_cases c3 : (1048576 : Int) < x3.length
  · simp [laws_FnExactPowerRounds_g, laws_FnExactPowerRounds_T, Tree.run, c3]
  cases z0 : decide (laws_szMatrix_v x2 (1048576) < 0)
  case true => simp only [laws_FnExactPowerRounds_g, laws_FnExactPowerRounds_T, Tree.run, c3, z0, decide_false, Bool.false_eq_true, if_false, if_true] <;> simp [Tree.run, z0]
  have d3 : decide ((1048576 : Int) < x3.length) = false := by simpa using c3
  cases r with
  | inl u =>
    simp only [laws_FnExactPowerRounds_g, laws_FnExactPowerRounds_T, Tree.run, i1, i2, en, hn, mark_nil, same_self, m2, toM_ok x0 x1 x2 h2, eqM_self x0 x1 x2 h2, m3, toF_ok x3 h3, eqF_self x3 h3, g1, z0, d3, Option.bind_some, Bool.false_eq_true, if_false, if_true, decide_true, Bool.not_true, Bool.not_false, beq_self_eq_true, marks_length]
    first | done | simp [Tree.run]
  | inr d =>
    obtain ⟨f1, d0_⟩ := d
    have hd := i3 _ rfl
    simp only at hd
    have e0 := hd
    have hd0 : d0_.length ≤ maxN := by unfold maxN; omega
    have md0 := mark_ok d0_ (1) hd0 (by omega) (by omega)
    have hl0 := held_ok (1) d0_.length hd0 (by omega) (by omega)
    have g20 : decide (((1 : Int) + d0_.length : Int) < 0) = false := by simp; omega
    simp only [laws_FnExactPowerRounds_g, laws_FnExactPowerRounds_T, Tree.run, i1, i2, en, hn, mark_nil, same_self, m2, toM_ok x0 x1 x2 h2, eqM_self x0 x1 x2 h2, m3, toF_ok x3 h3, eqF_self x3 h3, g1, z0, d3, md0, hl0, g20, eqF_self d0_ hd0, Option.bind_some, Bool.false_eq_true, if_false, if_true, decide_true, Bool.not_true, Bool.not_false, beq_self_eq_true, marks_length]
    first | done | simp [Tree.run]
theorem pr_lawL (x0 : Int) (x1 : Int) (x2 : Nat) (x3 : Nat) (x4 : Int) (h0 : -9223372036854775808 ≤ x0 ∧ x0 < 9223372036854775808) (h1 : -9223372036854775808 ≤ x1 ∧ x1 < 9223372036854775808) (h2 : x2 < 9223372036854775808) (h3 : x3 < 9223372036854775808) (h4 : -9223372036854775808 ≤ x4 ∧ x4 < 9223372036854775808) (big : maxN < x2 ∨ maxN < x3) : laws_FnExactPowerRounds_len_g x2 x3 = some true := by
  unfold maxN at big
  by_cases c3 : (1048576 : Int) < (x3 : Int)
  · simp [laws_FnExactPowerRounds_len_g, laws_FnExactPowerRounds_len_T, Tree.run, c3]
  by_cases k2 : (1048576 : Int) < (x2 : Int)
  · have e := szM_len1 x2 (1048576) h2 (by omega) (by omega) k2
    simp [laws_FnExactPowerRounds_len_g, laws_FnExactPowerRounds_len_T, Tree.run, c3, e]
  have e2 := szM_len0 x2 (1048576) h2 (by omega) (by omega) k2
  have g2 : decide ((1048576 - (x2 : Int)) < 0) = false := by simp; omega
  omega
end Go.Proofs.Ytflodniglbgkhaa.AM
