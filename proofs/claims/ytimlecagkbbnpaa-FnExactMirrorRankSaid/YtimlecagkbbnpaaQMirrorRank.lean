/- MirrorRank: both sides, and the law. -/
import Derived.Test.YtimlecagkbbnpaaMR1
import Derived.Test.YtimlecagkbbnpaaI0
set_option linter.unusedSimpArgs false
set_option linter.unusedVariables false
set_option maxHeartbeats 1000000
namespace Go.Proofs.Ytimlecagkbbnpaa.AM

theorem swX {X : List Nat} {p b : Nat} : (X.set b (nth X p)).set p (nth X b) = (X.set p (nth X b)).set b (nth X p) := by
  by_cases e : p = b
  · subst e; rfl
  · exact List.set_comm _ _ (fun h => e h.symm)
theorem Cs.sw {m n p b : Nat} {P : List (List Nat)} {X : List Nat} (h : Cs m n P X) (hp : p < m) (hb : b < m) : Cs m n P ((X.set p (nth X b)).set b (nth X p)) ∧ nth ((X.set p (nth X b)).set b (nth X p)) p = nth X b := by
  have hl := h.xl
  have g : ∀ i, i < m → nth ((X.set p (nth X b)).set b (nth X p)) i = if i = b then nth X p else if i = p then nth X b else nth X i := by
    intro i hi
    by_cases e1 : i = b
    · subst e1; rw [if_pos rfl, nth_set_eq _ _ _ (by simp; omega)]
    · rw [if_neg e1, nth_set_ne _ _ _ _ (fun h => e1 h.symm)]
      by_cases e2 : i = p
      · subst e2; rw [if_pos rfl, nth_set_eq _ _ _ (by omega)]
      · rw [if_neg e2, nth_set_ne _ _ _ _ (fun h => e2 h.symm)]
  refine ⟨⟨h.pl, by simp [hl], fun i hi => ?_, h.rl⟩, ?_⟩
  · rw [g i hi]
    split
    · exact h.xb p hp
    · split
      · exact h.xb b hb
      · exact h.xb i hi
  · rw [g p hp]
    by_cases e : p = b
    · rw [if_pos e, e]
    · rw [if_neg e, if_pos rfl]
theorem mr2 {m n : Nat} (hm : m ≤ 12) (hn : n ≤ 12) (M : List Nat) (near : Nat) :
    ∀ (d p : Nat) (P : List (List Nat)) (X : List Nat) (O : List Int), p + d = m → Cs m n P X → O.length = m →
      ∃ r, impl_MirrorRank_l2_g n m M near ((p : Int), (p : Int), P, X, O) = some r ∧ spec_MirrorRank_l2_g n m M near ((p : Int), (p : Int), P, X, O) = some r ∧ ∀ z, r = .inr z → z.2.length = m := by
  intro d
  induction d with
  | zero =>
    intro p P X O hp h hO
    have e : p = m := by omega
    subst e
    have q1 : decide ((p : Int) < (p : Int)) = false := decide_eq_false (by omega)
    exact ⟨.inr ((p : Int), O), wi_inr (T := fun s => (impl_MirrorRank_l2_T n p M near s).run) (by simp only [impl_MirrorRank_l2_T, Tree.run, q1, Bool.false_eq_true, if_false]), wi_inr (T := fun s => (spec_MirrorRank_l2_T n p M near s).run) (by simp only [spec_MirrorRank_l2_T, Tree.run, h.xl, q1, Bool.false_eq_true, if_false]), fun z hz => by cases hz; exact hO⟩
  | succ d ih =>
    intro p P X O hp h hO
    have hpm : p < m := by omega
    have q1 : decide ((p : Int) < (m : Int)) = true := decide_eq_true (by omega)
    have q2 : inb (p : Int) m = true := inb_iff.2 ⟨by omega, by omega⟩
    have q3 := w1 (show p ≤ 1000 by omega)
    obtain ⟨r, e1, e2, e3⟩ := mr4' h hm hn hpm (p : Int) O
    rcases e3 with rfl | ⟨b, b1, b2, rfl⟩
    · exact ⟨.inl (), wi_inr (T := fun s => (impl_MirrorRank_l2_T n m M near s).run) (by simp only [impl_MirrorRank_l2_T, Tree.run, q1, e1, Option.bind_some, if_true]), wi_inr (T := fun s => (spec_MirrorRank_l2_T n m M near s).run) (by simp only [spec_MirrorRank_l2_T, Tree.run, h.xl, q1, e2, Option.bind_some, if_true]), fun z hz => by cases hz⟩
    · obtain ⟨rt, hrt⟩ := sqrt_conv (sqs P (nth X b))
      have rI := rootI _ _ hrt
      have rS := rootS _ _ hrt
      cases hq : (fless .f32 rt near || feq .f32 rt near) with
      | true => exact ⟨.inr ((p : Int), O), wi_inr (T := fun s => (impl_MirrorRank_l2_T n m M near s).run) (by simp only [impl_MirrorRank_l2_T, Tree.run, q1, e1, rI, hq, Option.bind_some, if_true]), wi_inr (T := fun s => (spec_MirrorRank_l2_T n m M near s).run) (by simp only [spec_MirrorRank_l2_T, Tree.run, h.xl, q1, e2, rS, hq, Option.bind_some, if_true]), fun z hz => by cases hz; exact hO⟩
      | false =>
        obtain ⟨hX, hXp⟩ := h.sw hpm b2
        obtain ⟨c1, c2⟩ := h.xb b b2
        have hl := h.rl _ c1 c2
        have q4 : inb (b : Int) m = true := inb_iff.2 ⟨by omega, by omega⟩
        have nI : impl_norm_g (nget P (nth X b)) = some rt := by
          simp only [impl_norm_g, impl_norm_T, Tree.run, (sqsI h hn c1 c2).1, rI, Option.bind_some]
        have sI : impl_swap_g O p b = some () := by simp only [impl_swap_g, impl_swap_T, Tree.run, hO, q2, q4, if_true]
        have sS : spec_l03Trade_g O p b = some () := by simp only [spec_l03Trade_g, spec_l03Trade_T, Tree.run, hO, q2, q4, if_true]
        have sl : decide (((O.set p (nth O b)).set b (nth O p)).length = m) = true := decide_eq_true (by simp [hO])
        obtain ⟨P1, f1, f2, f3⟩ := mr6 hX hm hn hpm (p : Int) ((O.set p (nth O b)).set b (nth O p)) rt
        rw [hXp] at f2
        obtain ⟨P2, g1, g2, g3⟩ := mr8 f3 hm hn hpm (n : Int) (m : Int) M near (p : Int) ((O.set p (nth O b)).set b (nth O p))
        rw [hXp] at g2
        obtain ⟨r, z1, z2, z3⟩ := ih (p + 1) P2 _ ((O.set p (nth O b)).set b (nth O p)) (by omega) g3 (by simp [hO])
        refine ⟨r, wi_inl (T := fun s => (impl_MirrorRank_l2_T n m M near s).run) ?_ z1, wi_inl (T := fun s => (spec_MirrorRank_l2_T n m M near s).run) ?_ z2, z3⟩
        · simp only [impl_MirrorRank_l2_T, Tree.run, h.xl, hO, q1, q2, q3, q4, e1, rI, hq, sI, sl, Int.toNat_natCast, hXp, nI, hl, f1, g1, Option.bind_some, Bool.false_eq_true, if_false, if_true]
        · simp only [spec_MirrorRank_l2_T, Tree.run, h.xl, hO, q1, q2, q3, q4, e2, rS, hq, sS, sl, Int.toNat_natCast, hl, Option.bind_some, Bool.false_eq_true, if_false, if_true]
          rw [swX]
          simp only [f2, g2, Option.bind_some]
theorem least0 {x : Nat} (h : sfin x = true) : (fgrt .f32 x 0 || feq .f32 x 0) = !(fless .f32 x 0) := by
  have num : ∀ z, sfin z = isNum .f32 z := sfin_iff
  rw [num] at h
  unfold isNum at h
  have hz : FloatKind.f32.decode 0 = .number false 0 (-149) := by kernel_rfl
  have o : ∀ x y, FloatKind.f32.format.order x y = (FloatKind.f32.decode x).order (FloatKind.f32.decode y) := fun _ _ => rfl
  cases hx : FloatKind.f32.decode x with
  | nan s f => rw [hx] at h; cases h
  | infinity s => rw [hx] at h; cases h
  | number s m i =>
    unfold fgrt feq fless
    rw [o, hx, hz]
    simp only [Ieee.Datum.order]
    generalize compare (_ : Int) (_ : Int) = c
    cases c <;> rfl
theorem mir_both (x0 x1 : Int) (x2 : List Nat) (x3 : Nat) (h2 : x2.length ≤ maxN) : ∃ r, impl_MirrorRank_g x0 x1 x2 x3 = some r ∧ spec_MirrorRank_g x0 x1 x2 x3 = some r ∧ ∀ z, r = .inr z → z.2.length ≤ 1024 := by
  have vI := vmI x0 x1 x2 h2
  have vS := vmS x0 x1 x2 h2
  cases hv : vm x0 x1 x2 with
  | false =>
    rw [hv] at vI vS
    exact ⟨.inl (), by simp only [impl_MirrorRank_g, impl_MirrorRank_T, Tree.run, vI, Option.bind_some, Bool.not_false, if_true], by simp only [spec_MirrorRank_g, spec_MirrorRank_T, Tree.run, vS, Option.bind_some, Bool.not_false, if_true], fun z hz => by cases hz⟩
  | true =>
  rw [hv] at vI vS
  obtain ⟨n, m, rfl, rfl, n1, n2, m1, m2, hl, hf⟩ := vm_shape hv
  have fI := finI x3
  have fS := finS x3
  cases h3 : sfin x3 with
  | false =>
    rw [h3] at fI fS
    exact ⟨.inl (), by simp only [impl_MirrorRank_g, impl_MirrorRank_T, Tree.run, vI, fI, Option.bind_some, Bool.not_true, Bool.not_false, Bool.false_eq_true, if_false, if_true], by simp only [spec_MirrorRank_g, spec_MirrorRank_T, spec_l02Least_v, Tree.run, vS, fS, Option.bind_some, Bool.not_true, Bool.not_false, Bool.false_eq_true, if_false, if_true], fun z hz => by cases hz⟩
  | true =>
  rw [h3] at fI fS
  have l0 := least0 h3
  cases h4 : fless .f32 x3 0 with
  | true =>
    rw [h4] at l0
    exact ⟨.inl (), by simp only [impl_MirrorRank_g, impl_MirrorRank_T, Tree.run, vI, fI, h4, Option.bind_some, Bool.not_true, Bool.not_false, Bool.false_eq_true, if_false, if_true], by simp only [spec_MirrorRank_g, spec_MirrorRank_T, spec_l02Least_v, Tree.run, vS, fS, l0, Option.bind_some, Bool.not_true, Bool.not_false, Bool.false_eq_true, if_false, if_true], fun z hz => by cases hz⟩
  | false =>
  rw [h4] at l0
  obtain ⟨L, a1, a2, a3⟩ := mr_asc m2
  obtain ⟨P, X, c1, c2, c3⟩ := mr_cols n2 m2 hl L
  obtain ⟨r, e1, e2, e3⟩ := mr2 m2 n2 x2 x3 m 0 P X L (Nat.zero_add _) c3 a3
  have e1' : impl_MirrorRank_l2_g n m x2 x3 ((0 : Int), (0 : Int), P, X, L) = some r := e1
  have e2' : spec_MirrorRank_l2_g n m x2 x3 ((0 : Int), (0 : Int), P, X, L) = some r := e2
  refine ⟨(match r with | .inl _ => .inl () | .inr z => .inr (z.1, z.2)), ?_, ?_, ?_⟩
  · simp only [impl_MirrorRank_g, impl_MirrorRank_T, Tree.run, vI, fI, h4, a1, c1, e1', Option.bind_some, Bool.not_true, Bool.false_eq_true, if_false, if_true]
    cases r <;> rfl
  · simp only [spec_MirrorRank_g, spec_MirrorRank_T, spec_l02Least_v, Tree.run, vS, fS, l0, a2, c2, e2', Option.bind_some, Bool.not_true, Bool.not_false, Bool.false_eq_true, if_false, if_true]
    cases r <;> rfl
  · intro z hz
    cases r with
    | inl u => cases hz
    | inr w => cases hz; have := e3 w rfl; show w.2.length ≤ 1024; omega
theorem mirr (x0 : Int) (x1 : Int) (x2 : List Nat) (x3 : Nat) (h0 : -9223372036854775808 ≤ x0 ∧ x0 < 9223372036854775808) (h1 : -9223372036854775808 ≤ x1 ∧ x1 < 9223372036854775808) (h2 : x2.length ≤ maxN) : laws_FnExactMirrorRank_g x0 x1 x2 x3 = some true := by
  have q2 := h2
  unfold maxN at q2
  obtain ⟨r, i1, i2, i3⟩ := mir_both x0 x1 x2 x3 h2
  have enI := eqI_self [] (by simp [maxN])
  have hnI := heldI_nil 1 (by omega) (by omega)
  have m0 := markM_ok x2 (1) h2 (by omega) (by omega)
  have g1 : decide (((1 : Int) + x2.length : Int) < 0) = false := by simp; omega
  cases z0 : decide (laws_szMatrix_v x2 (1048576) < 0)
  case true => simp only [laws_FnExactMirrorRank_g, laws_FnExactMirrorRank_T, Tree.run, z0, decide_false, Bool.false_eq_true, if_false, if_true] <;> simp [Tree.run, z0]
  cases r with
  | inl u =>
    simp only [laws_FnExactMirrorRank_g, laws_FnExactMirrorRank_T, Tree.run, i1, i2, enI, hnI, markI_nil, m0, toM_ok x0 x1 x2 h2, eqM_self x0 x1 x2 h2, g1, z0, Option.bind_some, Bool.false_eq_true, if_false, if_true, decide_true, Bool.not_true, Bool.not_false, beq_self_eq_true, marks_length, marksI_length]
    first | done | simp [Tree.run]
  | inr d =>
    obtain ⟨f0, d1_⟩ := d
    have hd := i3 _ rfl
    simp only at hd
    have e1 := hd
    have hd1 : d1_.length ≤ maxN := by unfold maxN; omega
    have md1 := markI_ok d1_ (1) hd1 (by omega) (by omega)
    have hl1 := heldI_ok (1) d1_.length hd1 (by omega) (by omega)
    have g21 : decide (((1 : Int) + d1_.length : Int) < 0) = false := by simp; omega
    simp only [laws_FnExactMirrorRank_g, laws_FnExactMirrorRank_T, Tree.run, i1, i2, enI, hnI, markI_nil, m0, toM_ok x0 x1 x2 h2, eqM_self x0 x1 x2 h2, g1, z0, md1, hl1, g21, eqI_self d1_ hd1, Option.bind_some, Bool.false_eq_true, if_false, if_true, decide_true, Bool.not_true, Bool.not_false, beq_self_eq_true, marks_length, marksI_length]
    first | done | simp [Tree.run]
theorem mirrL (x0 : Int) (x1 : Int) (x2 : Nat) (x3 : Nat) (h0 : -9223372036854775808 ≤ x0 ∧ x0 < 9223372036854775808) (h1 : -9223372036854775808 ≤ x1 ∧ x1 < 9223372036854775808) (h2 : x2 < 9223372036854775808) (big : maxN < x2) : laws_FnExactMirrorRank_len_g x2 = some true := by
  have big0 := big
  unfold maxN at big
  have e := szM_len1 x2 (1048576) h2 (by omega) (by omega) (by omega)
  simp [laws_FnExactMirrorRank_len_g, laws_FnExactMirrorRank_len_T, Tree.run, e]
end Go.Proofs.Ytimlecagkbbnpaa.AM
