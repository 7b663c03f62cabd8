/- The polar part. -/
import Derived.Test.YtooakheodgndaaaP7
set_option linter.unusedSimpArgs false
set_option linter.unusedVariables false
namespace Go.Proofs.Ytooakheodgndaaa.AM

theorem flipS {n m : Nat} {q : List Nat} (hn : n ≤ 12) (hm : m ≤ 12) (hq : q.length = n * m) : spec_l02Flip_g n m q = some ((m : Int), (n : Int), flipL n m q) := by
  have hb := le144 hm hn
  have hmn : IntKind.i64.wrap ((n : Int) * (m : Int)) = ((m * n : Nat) : Int) := by rw [mulw hn hm, Nat.mul_comm]
  have : spec_l02Flip_l0_g n m q ((0 : Int), ([] : List Nat)) = some (flipL n m q) := by
    refine flat_gen (T := fun s => (spec_l02Flip_l0_T n m q s).run) (n := m) (m := n) ?_ ?_
    · intro p s hp hs
      obtain ⟨r1, r2, r3⟩ := rc_of hp
      have hz : decide ((n : Int) = 0) = false := by simp; omega
      simp only [spec_l02Flip_l0_T, Tree.run, hmn, lt_nat, hp, decide_true, if_true, hz, Bool.not_false, tdivN, tmodN, wN (show p / n ≤ 4611686018427387904 by omega), atS r2 r1 hn hm hq, Option.bind_some, w1 (show p ≤ 1000 by omega)]
      rw [if_pos (fitsN (by simp; omega))]
    · intro s; simp only [spec_l02Flip_l0_T, Tree.run, hmn, lt_nat, Nat.lt_irrefl, decide_false, Bool.false_eq_true, if_false]
  simp only [spec_l02Flip_g, spec_l02Flip_T, Tree.run, this, Option.bind_some, if_true, spec_l02Blank_v]
theorem mmS {n : Nat} {A B : List Nat} (h1 : 1 ≤ n) (hn : n ≤ 12) (hA : A.length = n * n) (hB : B.length = n * n) (fA : A.all sfin = true) (fB : B.all sfin = true) :
    spec_MulMatrices_g n n A n n B = some (if (mulL n n n A B).all sfin = true then .inr ((n : Int), (n : Int), mulL n n n A B) else .inl ()) := by
  have hb := le144 hn hn
  have eS := fitS n n A n n B (by unfold maxN; omega) (by unfold maxN; omega)
  rw [vm_nat h1 hn h1 hn hA, vm_nat h1 hn h1 hn hB, fA, fB] at eS
  simp only [decide_true, Bool.and_self] at eS
  have gS := mulS (q := n) hn hn hn hA hB
  have hl := mulL_length n n n A B
  generalize mulL n n n A B = d at gS hl
  have kS := giveR h1 hn h1 hn hl
  simp only [spec_MulMatrices_g, spec_MulMatrices_T, Tree.run, eS, gS, kS, Option.bind_some, Bool.not_true, Bool.false_eq_true, if_false]
  split <;> simp [Tree.run]
theorem mmS_bad {r1 c1 r2 c2 : Int} {A B : List Nat} (hA : A.length ≤ maxN) (hB : B.length ≤ maxN) (h : vm r1 c1 A = false ∨ vm r2 c2 B = false) : spec_MulMatrices_g r1 c1 A r2 c2 B = some (.inl ()) := by
  have eS := fitS r1 c1 A r2 c2 B hA hB
  have : (vm r1 c1 A && vm r2 c2 B && decide (c1 = r2)) = false := by rcases h with h | h <;> simp [h]
  rw [this] at eS
  simp [spec_MulMatrices_g, spec_MulMatrices_T, Tree.run, eS]
theorem wmS_bad {r1 c1 r2 c2 : Int} {A B : List Nat} (x y : Nat) (hA : A.length ≤ maxN) (hB : B.length ≤ maxN) (h : vm r1 c1 A = false ∨ vm r2 c2 B = false) : spec_WeighMatrices_g r1 c1 A r2 c2 B x y = some (.inl ()) := by
  have e1 := vmS r1 c1 A hA
  have e2 := vmS r2 c2 B hB
  rcases h with h | h
  · rw [h] at e1
    simp [spec_WeighMatrices_g, spec_WeighMatrices_T, Tree.run, e1]
  · rw [h] at e2
    simp only [spec_WeighMatrices_g, spec_WeighMatrices_T, Tree.run, e1, e2, Option.bind_some, Bool.not_false, if_true]
    cases vm r1 c1 A <;> simp
theorem vm_zero : vm 0 0 [] = false := by kernel_rfl
noncomputable def weighL (n : Nat) (A B : List Nat) (x y : Nat) : List Nat := rc n n fun i k => fadd .f32 (fmul .f32 x (nth A (i * n + k))) (fmul .f32 y (nth B (i * n + k)))
@[simp] theorem weighL_length (n : Nat) (A B : List Nat) (x y : Nat) : (weighL n A B x y).length = n * n := by simp [weighL]
theorem weighL_map {n : Nat} (A B : List Nat) (x y : Nat) : weighL n A B x y = (List.range (n * n)).map fun p => fadd .f32 (fmul .f32 x (nth A p)) (fmul .f32 y (nth B p)) := by
  unfold weighL rc
  refine List.map_congr_left fun p hp => ?_
  simp only
  rw [(rc_of (List.mem_range.1 hp)).2.2]
theorem f15 : sfin 1069547520 = true := by kernel_rfl
theorem f05 : sfin 3204448256 = true := by kernel_rfl
theorem wmS {n : Nat} {A B : List Nat} (h1 : 1 ≤ n) (hn : n ≤ 12) (hA : A.length = n * n) (hB : B.length = n * n) (fA : A.all sfin = true) (fB : B.all sfin = true) :
    spec_WeighMatrices_g n n A n n B 1069547520 3204448256 = some (if (weighL n A B 1069547520 3204448256).all sfin = true then .inr ((n : Int), (n : Int), weighL n A B 1069547520 3204448256) else .inl ()) := by
  have hb := le144 hn hn
  have e1 := isL h1 hn hA
  have e2 := isL h1 hn hB
  rw [fA] at e1
  rw [fB] at e2
  have hl := weighL_length n A B 1069547520 3204448256
  have g : spec_WeighMatrices_l0_g A B 1069547520 3204448256 ((0 : Int), ([] : List Nat)) = some (weighL n A B 1069547520 3204448256) := by
    rw [weighL_map, ← hA]
    refine app_gen (T := fun s => (spec_WeighMatrices_l0_T A B 1069547520 3204448256 s).run) ?_ ?_
    · intro i s hi hs
      simp only [spec_WeighMatrices_l0_T, Tree.run, lt_nat, hi, decide_true, if_true, inb_nat, show i < B.length by omega, Int.toNat_natCast, w1 (show i ≤ 1000 by omega)]
      rw [if_pos (fitsN (by simp; omega))]
    · intro s; simp [spec_WeighMatrices_l0_T, Tree.run]
  generalize weighL n A B 1069547520 3204448256 = d at g hl
  have kS := giveR h1 hn h1 hn hl
  simp only [spec_WeighMatrices_g, spec_WeighMatrices_T, Tree.run, e1, e2, finS, f15, f05, g, spec_l02Blank_v, kS, Option.bind_some, decide_true, Bool.not_true, Bool.false_eq_true, if_false, if_true]
  split <;> simp [Tree.run]
theorem wmI {n : Nat} {A B : List Nat} (h1 : 1 ≤ n) (hn : n ≤ 12) (hA : A.length = n * n) (hB : B.length = n * n) (fA : A.all sfin = true) (fB : B.all sfin = true) :
    impl_WeighMatrices_g n n A n n B 1069547520 3204448256 = some (if (weighL n A B 1069547520 3204448256).all sfin = true then .inr ((n : Int), (n : Int), weighL n A B 1069547520 3204448256) else .inl ()) := by
  have hb := le144 hn hn
  have e1 := vmI n n A (by unfold maxN; omega)
  have e2 := vmI n n B (by unfold maxN; omega)
  rw [vm_nat h1 hn h1 hn hA, fA] at e1
  rw [vm_nat h1 hn h1 hn hB, fB] at e2
  have e3 : impl_areFinite_g [1069547520, 3204448256] = some true := by
    have := areFin [1069547520, 3204448256] (by unfold maxN; simp)
    simpa [f15, f05] using this
  have hl := weighL_length n A B 1069547520 3204448256
  have g : impl_made_i3_l0_g n n 1069547520 n n A 3204448256 n n B n n ((0 : Int), List.replicate (n * n) 0) = some (weighL n A B 1069547520 3204448256) := by
    refine made_gen (T0 := fun s => (impl_made_i3_l0_T n n 1069547520 n n A 3204448256 n n B n n s).run) (T2 := fun i s => (impl_made_i3_l2_T n 1069547520 n A 3204448256 n B i n n s).run) (n := n) (m := n) ?_ ?_ ?_ ?_
    · intro i k s hi hk hs
      have hc : impl_weigh_1_g (i : Int) (k : Int) 1069547520 n A 3204448256 n B = some (fadd .f32 (fmul .f32 1069547520 (nth A (i * n + k))) (fmul .f32 3204448256 (nth B (i * n + k)))) := by
        simp only [impl_weigh_1_g, impl_weigh_1_T, impl_mul_v, Tree.run, atI hi hk hn hn hA, atI hi hk hn hn hB, Option.bind_some]
      simp only [impl_made_i3_l2_T, Tree.run, lt_nat, hk, decide_true, if_true, hc, setR hi hk hn hn hs, Option.bind_some, atw hi hk hn hn, Int.toNat_natCast, List.length_set, w1 (show k ≤ 1000 by omega)]
    · intro i s hi; simp [impl_made_i3_l2_T, Tree.run]
    · intro i s s' hi h
      have h' : impl_made_i3_l2_g n 1069547520 n A 3204448256 n B i n n ((0 : Int), s) = some s' := h
      simp only [impl_made_i3_l0_T, Tree.run, lt_nat, hi, decide_true, if_true, h', Option.bind_some, w1 (show i ≤ 1000 by omega)]
    · intro s; simp [impl_made_i3_l0_T, Tree.run]
  have g2 : impl_weigh_g n n A n n B 1069547520 3204448256 = some ((n : Int), (n : Int), weighL n A B 1069547520 3204448256) := by
    simp only [impl_weigh_g, impl_weigh_T, impl_made_i3_g, impl_made_i3_T, Tree.run, newR hn hn, mulw hn hn, Int.toNat_natCast, g, Option.bind_some, if_true]
  generalize weighL n A B 1069547520 3204448256 = d at g2 hl
  have kI := validR h1 hn h1 hn hl
  simp only [impl_WeighMatrices_g, impl_WeighMatrices_T, Tree.run, e1, e2, e3, g2, kI, Option.bind_some, decide_true, Bool.not_true, Bool.false_eq_true, if_false, if_true]
  split <;> simp [Tree.run]
theorem flip_fin {n m : Nat} {A : List Nat} (hA : A.length = n * m) (h : A.all sfin = true) : (flipL n m A).all sfin = true := by
  rw [List.all_eq_true] at h ⊢
  intro v hv
  unfold flipL rc at hv
  obtain ⟨p, hp, rfl⟩ := List.mem_map.1 hv
  obtain ⟨r1, r2, _⟩ := rc_of (List.mem_range.1 hp)
  have := rc_lt r2 r1
  simp only
  rw [nth_of _ _ (by omega)]
  exact h _ (List.getElem_mem _)
/-- The rounds, from a valid square on. -/
theorem plLoop {n w : Nat} (h1 : 1 ≤ n) (hn : n ≤ 12) (hw : w ≤ 64) : ∀ (t k : Nat) (X : List Nat), k + t = w → X.length = n * n → X.all sfin = true →
    ∃ o, impl_PolarPart_l0_1_g w (.inl ((k : Int), (n : Int), (n : Int), X)) = some o ∧
      ∃ o', spec_PolarPart_l2_g w ((k : Int), (n : Int), (n : Int), X) = some o' ∧
        ((∃ Y, o = .inr (.inl ((n : Int), (n : Int), Y)) ∧ o' = .inr ((n : Int), (n : Int), Y) ∧ Y.length = n * n ∧ Y.all sfin = true) ∨ ((o = .inl () ∨ o = .inr (.inr ())) ∧ o' = .inl ())) := by
  intro t
  induction t with
  | zero =>
    intro k X hk hX fX
    have : k = w := by omega
    subst this
    exact ⟨_, whileM_inr (T := fun s => (impl_PolarPart_l0_1_T k s).run) (r := .inr (.inl ((n : Int), (n : Int), X))) (by simp [impl_PolarPart_l0_1_T, Tree.run]), _, whileM_inr (T := fun s => (spec_PolarPart_l2_T k s).run) (r := .inr ((n : Int), (n : Int), X)) (by simp [spec_PolarPart_l2_T, Tree.run]), .inl ⟨X, rfl, rfl, hX, fX⟩⟩
  | succ t ih =>
    intro k X hk hX fX
    have hb := le144 hn hn
    have hkw : k < w := by omega
    have hm0 : X.length ≤ maxN := by unfold maxN; omega
    have hm1 : ([] : List Nat).length ≤ maxN := by unfold maxN; simp
    have fI := flipI hn hn hX
    have fS := flipS hn hn hX
    have ff := flip_fin hX fX
    have fl : (flipL n n X).length = n * n := by simp [flipL]
    generalize flipL n n X = Xt at fI fS ff fl
    have m1I := mmI h1 hn fl hX ff fX
    have m1S := mmS h1 hn fl hX ff fX
    have l1 := mulL_length n n n Xt X
    generalize mulL n n n Xt X = Q at m1I m1S l1
    have bad : ∀ (B : List Nat), B.length ≤ maxN → True := fun _ _ => trivial
    have wz := wmS_bad (r1 := n) (c1 := n) (A := X) 1069547520 3204448256 hm0 hm1 (.inr vm_zero)
    have mz := mmS_bad (r1 := n) (c1 := n) (A := X) hm0 hm1 (.inr vm_zero)
    have stop : (impl_PolarPart_l0_1_T w (.inl ((k : Int), (n : Int), (n : Int), X))).run = some (.inr (.inl ())) → (spec_PolarPart_l2_T w ((k : Int), (n : Int), (n : Int), X)).run = some (.inr (.inl ())) →
        ∃ o, impl_PolarPart_l0_1_g w (.inl ((k : Int), (n : Int), (n : Int), X)) = some o ∧
      ∃ o', spec_PolarPart_l2_g w ((k : Int), (n : Int), (n : Int), X) = some o' ∧
        ((∃ Y, o = .inr (.inl ((n : Int), (n : Int), Y)) ∧ o' = .inr ((n : Int), (n : Int), Y) ∧ Y.length = n * n ∧ Y.all sfin = true) ∨ ((o = .inl () ∨ o = .inr (.inr ())) ∧ o' = .inl ())) := fun s1 s2 =>
      ⟨_, whileM_inr (T := fun s => (impl_PolarPart_l0_1_T w s).run) s1, _, whileM_inr (T := fun s => (spec_PolarPart_l2_T w s).run) s2, .inr ⟨.inl rfl, rfl⟩⟩
    cases fQ : Q.all sfin with
    | false =>
      rw [fQ] at m1I m1S
      refine stop ?_ ?_
      · simp only [impl_PolarPart_l0_1_T, Tree.run, lt_nat, hkw, decide_true, if_true, fI, m1I, Option.bind_some, Bool.false_eq_true, if_false]
      · simp only [spec_PolarPart_l2_T, Tree.run, lt_nat, hkw, decide_true, if_true, fS, m1S, mz, wz, Option.bind_some, Bool.false_eq_true, if_false]
    | true =>
      rw [fQ] at m1I m1S
      have m2I := mmI h1 hn hX l1 fX fQ
      have m2S := mmS h1 hn hX l1 fX fQ
      have l2 := mulL_length n n n X Q
      generalize mulL n n n X Q = C at m2I m2S l2
      cases fC : C.all sfin with
      | false =>
        rw [fC] at m2I m2S
        refine stop ?_ ?_
        · simp only [impl_PolarPart_l0_1_T, Tree.run, lt_nat, hkw, decide_true, if_true, fI, m1I, m2I, Option.bind_some, Bool.false_eq_true, if_false]
        · simp only [spec_PolarPart_l2_T, Tree.run, lt_nat, hkw, decide_true, if_true, fS, m1S, m2S, wz, Option.bind_some, Bool.false_eq_true, if_false]
      | true =>
        rw [fC] at m2I m2S
        have w3I := wmI h1 hn hX l2 fX fC
        have w3S := wmS h1 hn hX l2 fX fC
        have l3 := weighL_length n X C 1069547520 3204448256
        generalize weighL n X C 1069547520 3204448256 = Y at w3I w3S l3
        cases fY : Y.all sfin with
        | false =>
          rw [fY] at w3I w3S
          have s2 : (spec_PolarPart_l2_T w ((k : Int), (n : Int), (n : Int), X)).run = some (.inr (.inl ())) := by
            simp only [spec_PolarPart_l2_T, Tree.run, lt_nat, hkw, decide_true, if_true, fS, m1S, m2S, w3S, Option.bind_some, Bool.false_eq_true, if_false]
          have s1 : (impl_PolarPart_l0_1_T w (.inl ((k : Int), (n : Int), (n : Int), X))).run = some (.inl (.inr ((k + 1 : Nat) : Int))) := by
            simp only [impl_PolarPart_l0_1_T, Tree.run, lt_nat, hkw, decide_true, if_true, fI, m1I, m2I, w3I, Option.bind_some, Bool.false_eq_true, if_false, w1 (show k ≤ 1000 by omega)]
          by_cases hk1 : k + 1 < w
          · exact ⟨_, whileM_inl (T := fun s => (impl_PolarPart_l0_1_T w s).run) s1 (whileM_inr (T := fun s => (impl_PolarPart_l0_1_T w s).run) (r := .inl ()) (by simp only [impl_PolarPart_l0_1_T, Tree.run, lt_nat, hk1, decide_true, if_true])), _, whileM_inr (T := fun s => (spec_PolarPart_l2_T w s).run) s2, .inr ⟨.inl rfl, rfl⟩⟩
          · exact ⟨_, whileM_inl (T := fun s => (impl_PolarPart_l0_1_T w s).run) s1 (whileM_inr (T := fun s => (impl_PolarPart_l0_1_T w s).run) (r := .inr (.inr ())) (by simp only [impl_PolarPart_l0_1_T, Tree.run, lt_nat, hk1, decide_false, Bool.false_eq_true, if_false])), _, whileM_inr (T := fun s => (spec_PolarPart_l2_T w s).run) s2, .inr ⟨.inr rfl, rfl⟩⟩
        | true =>
          rw [fY] at w3I w3S
          obtain ⟨o, g1, o', g2, g3⟩ := ih (k + 1) Y (by omega) l3 fY
          refine ⟨o, whileM_inl (T := fun s => (impl_PolarPart_l0_1_T w s).run) ?_ g1, o', whileM_inl (T := fun s => (spec_PolarPart_l2_T w s).run) ?_ g2, g3⟩
          · simp only [impl_PolarPart_l0_1_T, Tree.run, lt_nat, hkw, decide_true, if_true, fI, m1I, m2I, w3I, Option.bind_some, w1 (show k ≤ 1000 by omega)]
          · simp only [spec_PolarPart_l2_T, Tree.run, lt_nat, hkw, decide_true, if_true, fS, m1S, m2S, w3S, Option.bind_some, w1 (show k ≤ 1000 by omega)]
noncomputable def scaleL (n y : Nat) (A : List Nat) : List Nat := (List.range (n * n)).map fun i => fdiv .f32 (nth A i) y
@[simp] theorem scaleL_length (n y : Nat) (A : List Nat) : (scaleL n y A).length = n * n := by simp [scaleL]
theorem scaleS {n y : Nat} {A : List Nat} (hn : n ≤ 12) (hA : A.length = n * n) (a b : Int) : spec_PolarPart_l0_g y a b ((0 : Int), A) = some (scaleL n y A) := by
  have hb := le144 hn hn
  refine each_gen (T := fun s => (spec_PolarPart_l0_T y a b s).run) (n := n * n) (fun i z => fdiv .f32 z y) hA ?_ ?_
  · intro i s hi hl
    simp only [spec_PolarPart_l0_T, Tree.run, hl, lt_nat, hi, decide_true, if_true, inb_nat, Int.toNat_natCast, w1 (show i ≤ 1000 by omega)]
  · intro s hl; simp [spec_PolarPart_l0_T, Tree.run, hl]
theorem scaleI {n y : Nat} {A : List Nat} (hn : n ≤ 12) (hA : A.length = n * n) : impl_made_g n n n n A y = some ((n : Int), (n : Int), scaleL n y A) := by
  have he : scaleL n y A = rc n n fun i k => fdiv .f32 (nth A (i * n + k)) y := by
    unfold scaleL rc
    refine List.map_congr_left fun p hp => ?_
    simp only
    rw [(rc_of (List.mem_range.1 hp)).2.2]
  have g : impl_made_l0_g n n n n A y n n ((0 : Int), List.replicate (n * n) 0) = some (scaleL n y A) := by
    rw [he]
    refine made_gen (T0 := fun s => (impl_made_l0_T n n n n A y n n s).run) (T2 := fun i s => (impl_made_l2_T n n A y i n n s).run) (n := n) (m := n) ?_ ?_ ?_ ?_
    · intro i k s hi hk hs
      have hc : impl_PolarPart_1_g (i : Int) (k : Int) n A y = some (fdiv .f32 (nth A (i * n + k)) y) := by
        simp only [impl_PolarPart_1_g, impl_PolarPart_1_T, Tree.run, atI hi hk hn hn hA, Option.bind_some]
      simp only [impl_made_l2_T, Tree.run, lt_nat, hk, decide_true, if_true, hc, setR hi hk hn hn hs, Option.bind_some, atw hi hk hn hn, Int.toNat_natCast, List.length_set, w1 (show k ≤ 1000 by omega)]
    · intro i s hi; simp [impl_made_l2_T, Tree.run]
    · intro i s s' hi h
      have h' : impl_made_l2_g n n A y i n n ((0 : Int), s) = some s' := h
      simp only [impl_made_l0_T, Tree.run, lt_nat, hi, decide_true, if_true, h', Option.bind_some, w1 (show i ≤ 1000 by omega)]
    · intro s; simp [impl_made_l0_T, Tree.run]
  simp only [impl_made_g, impl_made_T, Tree.run, newR hn hn, mulw hn hn, Int.toNat_natCast, g, Option.bind_some, if_true]
theorem pl_both (r c : Int) (x : List Nat) (w : Int) (hx : x.length ≤ maxN) (hw : -9223372036854775808 ≤ w ∧ w < 9223372036854775808) : ∃ o, impl_PolarPart_g r c x w = some o ∧ spec_PolarPart_g r c x w = some o ∧ ∀ d, o = .inr d → d.2.2.length ≤ 144 := by
  have qI := sqI r c x hx
  have qS := sqS r c x hx
  have vI := vmI r c x hx
  have vS := vmS r c x hx
  cases hv : vm r c x with
  | false =>
    rw [hv] at qI qS vI vS
    simp only [Bool.false_and] at qI qS
    exact ⟨.inl (), by simp [impl_PolarPart_g, impl_PolarPart_T, Tree.run, qI], by simp [spec_PolarPart_g, spec_PolarPart_T, spec_WholeNorm_g, spec_WholeNorm_T, Tree.run, vS], fun d h => by cases h⟩
  | true =>
  rw [hv] at qI qS vI vS
  obtain ⟨n, m, rfl, rfl, a1, a2, a3, a4, a5, a6⟩ := vm_shape hv
  have hb1 := le144 a2 a4
  -- the norm
  have dS := dotS x x (Nat.le_refl _) hx
  have dI := dotI x x (Nat.le_refl _) hx
  generalize dotN (fun i => fmul .f32 (nth x i) (nth x i)) x.length = v at dS dI
  obtain ⟨y, hy⟩ := sqrt_conv v
  have rS := rootS v y hy
  have rI : impl_norm_g x = some y := by simp only [impl_norm_g, impl_norm_T, Tree.run, dI, rootI v y hy, Option.bind_some]
  have nI : impl_WholeNorm_g n m x = some (if sfin y = true then .inr y else .inl ()) := by
    simp only [impl_WholeNorm_g, impl_WholeNorm_T, Tree.run, vI, rI, impl_finite_v, finI, Option.bind_some, Bool.not_true, Bool.false_eq_true, if_false]
    by_cases hf : sfin y = true <;> simp [hf, Tree.run]
  have nS : spec_WholeNorm_g n m x = some (if sfin y = true then .inr y else .inl ()) := by
    simp only [spec_WholeNorm_g, spec_WholeNorm_T, Tree.run, vS, dS, rS, spec_l02Number_v, finS, Option.bind_some, Bool.not_true, Bool.false_eq_true, if_false]
    by_cases hf : sfin y = true <;> simp [hf, Tree.run]
  cases hsq : decide ((n : Int) = (m : Int)) with
  | false =>
    rw [hsq] at qI qS
    simp only [Bool.and_false] at qI qS
    refine ⟨.inl (), by simp [impl_PolarPart_g, impl_PolarPart_T, Tree.run, qI], ?_, fun d h => by cases h⟩
    simp only [spec_PolarPart_g, spec_PolarPart_T, Tree.run, nS, qS, Option.bind_some, Bool.not_false, if_true]
    cases sfin y <;> simp [Tree.run]
  | true =>
  rw [hsq] at qI qS
  simp only [Bool.and_true] at qI qS
  have e : n = m := by simp only [decide_eq_true_eq] at hsq; omega
  subst e
  have hin : impl_isRounds_v w = spec_l04Rounds_v w := rfl
  cases hi : spec_l04Rounds_v w with
  | false =>
    refine ⟨.inl (), by simp [impl_PolarPart_g, impl_PolarPart_T, Tree.run, qI, hin, hi], ?_, fun d h => by cases h⟩
    simp only [spec_PolarPart_g, spec_PolarPart_T, Tree.run, nS, qS, hi, Option.bind_some, Bool.not_false, Bool.not_true, Bool.false_eq_true, if_false, if_true]
    cases sfin y <;> simp [Tree.run]
  | true =>
    obtain ⟨p, rfl, hp⟩ : ∃ p : Nat, w = (p : Int) ∧ p ≤ 64 := by
      simp [spec_l04Rounds_v, spec_l00In_v] at hi
      exact ⟨w.toNat, by omega, by omega⟩
    cases fy : sfin y with
    | false =>
      rw [fy] at nI nS
      exact ⟨.inl (), by simp [impl_PolarPart_g, impl_PolarPart_T, Tree.run, qI, hin, hi, nI], by simp [spec_PolarPart_g, spec_PolarPart_T, Tree.run, nS], fun d h => by cases h⟩
    | true =>
      rw [fy] at nI nS
      simp only [if_true] at nI nS
      cases hg : fgrt .f32 y 0 with
      | false =>
        exact ⟨.inl (), by simp [impl_PolarPart_g, impl_PolarPart_T, Tree.run, qI, hin, hi, nI, hg], by simp [spec_PolarPart_g, spec_PolarPart_T, Tree.run, nS, qS, hi, hg], fun d h => by cases h⟩
      | true =>
        have q2 : fits x.length = true := fitsN (by omega)
        have sI := scaleI (y := y) a2 a5
        have sS := scaleS (y := y) a2 a5 n n
        have sl := scaleL_length n y x
        generalize scaleL n y x = X at sI sS sl
        have kI := validR a1 a2 a1 a2 sl
        cases fX : X.all sfin with
        | false =>
          rw [fX] at kI
          -- it fails at once, or in the first round
          have l0 : ∃ o, impl_PolarPart_l0_g p () = some o := by
            by_cases h0 : (0 : Int) < (p : Int)
            · exact ⟨_, whileM_inr (T := fun s => (impl_PolarPart_l0_T p s).run) (r := .inl ()) (by simp [impl_PolarPart_l0_T, Tree.run]; omega)⟩
            · exact ⟨_, whileM_inr (T := fun s => (impl_PolarPart_l0_T p s).run) (r := .inr ()) (by simp [impl_PolarPart_l0_T, Tree.run]; omega)⟩
          obtain ⟨o, ho⟩ := l0
          have hm0 : X.length ≤ maxN := by unfold maxN; omega
          have hm1 : ([] : List Nat).length ≤ maxN := by unfold maxN; simp
          have hvX : vm (n : Int) (n : Int) X = false := by rw [vm_nat a1 a2 a1 a2 sl, fX]
          have fS := flipS a2 a2 sl
          have fl : (flipL n n X).length = n * n := by simp [flipL]
          have m1 := mmS_bad (r1 := n) (c1 := n) (r2 := n) (c2 := n) (A := flipL n n X) (B := X) (by unfold maxN; omega) hm0 (.inr hvX)
          have m2 := mmS_bad (r1 := n) (c1 := n) (r2 := 0) (c2 := 0) (A := X) (B := []) hm0 hm1 (.inl hvX)
          have w3 := wmS_bad (r1 := n) (c1 := n) (r2 := 0) (c2 := 0) (A := X) (B := []) 1069547520 3204448256 hm0 hm1 (.inl hvX)
          refine ⟨.inl (), ?_, ?_, fun d h => by cases h⟩
          · simp only [impl_PolarPart_g, impl_PolarPart_T, Tree.run, qI, hin, hi, nI, hg, sI, kI, ho, Option.bind_some, Bool.not_true, Bool.false_eq_true, if_false, if_true]
            cases o <;> simp [Tree.run]
          · by_cases h0 : 0 < p
            · have l2 : spec_PolarPart_l2_g p ((0 : Int), (n : Int), (n : Int), X) = some (.inl ()) := whileM_inr (T := fun s => (spec_PolarPart_l2_T p s).run) (by
                have d0 : decide ((0 : Int) < (p : Int)) = true := by simp; omega
                simp only [spec_PolarPart_l2_T, Tree.run, d0, if_true, fS, m1, m2, w3, Option.bind_some])
              simp only [spec_PolarPart_g, spec_PolarPart_T, spec_l02Own_g, spec_l02Own_T, Tree.run, nS, qS, hi, hg, List.nil_append, q2, sS, l2, Option.bind_some, Bool.not_true, Bool.false_eq_true, if_false, if_true]
            · have l2 : spec_PolarPart_l2_g p ((0 : Int), (n : Int), (n : Int), X) = some (.inr ((n : Int), (n : Int), X)) := whileM_inr (T := fun s => (spec_PolarPart_l2_T p s).run) (by
                have d0 : decide ((0 : Int) < (p : Int)) = false := by simp; omega
                simp only [spec_PolarPart_l2_T, Tree.run, d0, Bool.false_eq_true, if_false])
              have kS := giveR a1 a2 a1 a2 sl
              rw [fX] at kS
              simp only [spec_PolarPart_g, spec_PolarPart_T, spec_l02Own_g, spec_l02Own_T, Tree.run, nS, qS, hi, hg, List.nil_append, q2, sS, l2, kS, Option.bind_some, Bool.not_true, Bool.false_eq_true, if_false, if_true]
        | true =>
          rw [fX] at kI
          simp only [if_true] at kI
          obtain ⟨o, g1, o', g2, g3⟩ := plLoop (w := p) a1 a2 hp p 0 X (by omega) sl fX
          have g1 : impl_PolarPart_l0_1_g p (.inl ((0 : Int), (n : Int), (n : Int), X)) = some o := g1
          have g2 : spec_PolarPart_l2_g p ((0 : Int), (n : Int), (n : Int), X) = some o' := g2
          rcases g3 with ⟨Y, rfl, rfl, y1, y2⟩ | ⟨h, rfl⟩
          · have kS := giveR a1 a2 a1 a2 y1
            rw [y2] at kS
            simp only [if_true] at kS
            refine ⟨.inr ((n : Int), (n : Int), Y), ?_, ?_, fun d h => by cases h; simp only; omega⟩
            · simp only [impl_PolarPart_g, impl_PolarPart_T, Tree.run, qI, hin, hi, nI, hg, sI, kI, g1, Option.bind_some, Bool.not_true, Bool.false_eq_true, if_false, if_true]
            · simp only [spec_PolarPart_g, spec_PolarPart_T, spec_l02Own_g, spec_l02Own_T, Tree.run, nS, qS, hi, hg, List.nil_append, q2, sS, g2, kS, Option.bind_some, Bool.not_true, Bool.false_eq_true, if_false, if_true]
          · refine ⟨.inl (), ?_, ?_, fun d h => by cases h⟩
            · rcases h with rfl | rfl
              · simp only [impl_PolarPart_g, impl_PolarPart_T, Tree.run, qI, hin, hi, nI, hg, sI, kI, g1, Option.bind_some, Bool.not_true, Bool.false_eq_true, if_false, if_true]
              · simp only [impl_PolarPart_g, impl_PolarPart_T, Tree.run, qI, hin, hi, nI, hg, sI, kI, g1, Option.bind_some, Bool.not_true, Bool.false_eq_true, if_false, if_true]
            · simp only [spec_PolarPart_g, spec_PolarPart_T, spec_l02Own_g, spec_l02Own_T, Tree.run, nS, qS, hi, hg, List.nil_append, q2, sS, g2, Option.bind_some, Bool.not_true, Bool.false_eq_true, if_false, if_true]
theorem pl_law (x0 : Int) (x1 : Int) (x2 : List Nat) (x3 : Int) (h0 : -9223372036854775808 ≤ x0 ∧ x0 < 9223372036854775808) (h1 : -9223372036854775808 ≤ x1 ∧ x1 < 9223372036854775808) (h2 : x2.length ≤ maxN) (h3 : -9223372036854775808 ≤ x3 ∧ x3 < 9223372036854775808) : laws_FnExactPolarPart_g x0 x1 x2 x3 = some true := by
  have q2 := h2
  unfold maxN at q2
  obtain ⟨r, i1, i2, i3⟩ := pl_both x0 x1 x2 x3 h2 h3
  have enM := eqM_self 0 0 [] (by simp [maxN])
  have hnM := heldM_nil 1 (by omega) (by omega)
  have m2 := markM_ok x2 (1) h2 (by omega) (by omega)
  have g1 : decide (((1 : Int) + x2.length : Int) < 0) = false := by simp; omega
  cases z0 : decide (laws_szMatrix_v x2 (1048576) < 0)
  case true => simp only [laws_FnExactPolarPart_g, laws_FnExactPolarPart_T, Tree.run, z0, decide_false, Bool.false_eq_true, if_false, if_true] <;> simp [Tree.run, z0]
  cases r with
  | inl u =>
    simp only [laws_FnExactPolarPart_g, laws_FnExactPolarPart_T, Tree.run, i1, i2, enM, hnM, markM_nil, m2, toM_ok x0 x1 x2 h2, eqM_self x0 x1 x2 h2, g1, z0, Option.bind_some, Bool.false_eq_true, if_false, if_true, decide_true, Bool.not_true, Bool.not_false, beq_self_eq_true, marks_length]
    first | done | simp [Tree.run]
  | inr d =>
    obtain ⟨a0, b0, d0_⟩ := d
    have hd := i3 _ rfl
    simp only at hd
    have e0 := hd
    have hd0 : d0_.length ≤ maxN := by unfold maxN; omega
    have md0 := markM_ok d0_ (1) hd0 (by omega) (by omega)
    have hl0 := heldM_ok (1) d0_.length hd0 (by omega) (by omega)
    have g20 : decide (((1 : Int) + d0_.length : Int) < 0) = false := by simp; omega
    simp only [laws_FnExactPolarPart_g, laws_FnExactPolarPart_T, Tree.run, i1, i2, enM, hnM, markM_nil, m2, toM_ok x0 x1 x2 h2, eqM_self x0 x1 x2 h2, g1, z0, md0, hl0, g20, eqM_self a0 b0 d0_ hd0, Option.bind_some, Bool.false_eq_true, if_false, if_true, decide_true, Bool.not_true, Bool.not_false, beq_self_eq_true, marks_length]
    first | done | simp [Tree.run]
theorem pl_lawL (x0 : Int) (x1 : Int) (x2 : Nat) (x3 : Int) (h0 : -9223372036854775808 ≤ x0 ∧ x0 < 9223372036854775808) (h1 : -9223372036854775808 ≤ x1 ∧ x1 < 9223372036854775808) (h2 : x2 < 9223372036854775808) (h3 : -9223372036854775808 ≤ x3 ∧ x3 < 9223372036854775808) (big : maxN < x2) : laws_FnExactPolarPart_len_g x2 = some true := by
  unfold maxN at big
  by_cases k2 : (1048576 : Int) < (x2 : Int)
  · have e := szM_len1 x2 (1048576) h2 (by omega) (by omega) k2
    simp [laws_FnExactPolarPart_len_g, laws_FnExactPolarPart_len_T, Tree.run, e]
  have e2 := szM_len0 x2 (1048576) h2 (by omega) (by omega) k2
  have g2 : decide ((1048576 - (x2 : Int)) < 0) = false := by simp; omega
  omega
end Go.Proofs.Ytooakheodgndaaa.AM
