/- Thirds times a list. -/
import Derived.Test.YtjniaobboclniaaT0
set_option linter.unusedSimpArgs false
set_option linter.unusedVariables false
namespace Go.Proofs.Ytjniaobboclniaa.AM

theorem tt_loop (l m u v : List Nat) (h : shape3 l m u) (hv : v.length = m.length) : ∀ s : Int × List Nat, (0 ≤ s.1 ∧ s.1 ≤ v.length ∧ (s.2.length : Int) = s.1) →
    ∃ d, whileM (fun s => (spec_ThirdsTimes_l0_T l m u v s).run) s = some d ∧ d.length = v.length := by
  obtain ⟨a1, a2, a3, a4⟩ := h
  refine whileM_wf (T := fun (s : Int × List Nat) (d : List Nat) => d.length = v.length) _ (fun (s : Int × List Nat) => 0 ≤ s.1 ∧ s.1 ≤ v.length ∧ (s.2.length : Int) = s.1) (fun (s : Int × List Nat) => ((v.length : Int) - s.1).toNat) ?_
  rintro ⟨i, d⟩ ⟨h1, h2, h3⟩
  simp only at h1 h2 h3
  by_cases hc : i < (v.length : Int)
  · left
    have w1 : IntKind.i64.wrap (i + 1) = i + 1 := w64 (by omega) (by omega)
    have w2 : IntKind.i64.wrap (i - 1) = i - 1 := w64 (by omega) (by omega)
    have b1 : inb i l.length = true := inb_iff.2 ⟨by omega, by omega⟩
    have b2 : inb i m.length = true := inb_iff.2 ⟨by omega, by omega⟩
    have b3 : inb i u.length = true := inb_iff.2 ⟨by omega, by omega⟩
    have b4 : inb i v.length = true := inb_iff.2 ⟨by omega, by omega⟩
    have hf : ∀ x : Nat, fits (d ++ [x]).length = true := fun x => fits_iff.2 (by unfold maxN; simp; omega)
    have fin : ∀ x : Nat, ∃ s', (some (.inl (i + 1, d ++ [x])) : Option ((Int × List Nat) ⊕ List Nat)) = some (.inl s') ∧ (0 ≤ s'.1 ∧ s'.1 ≤ v.length ∧ (s'.2.length : Int) = s'.1) ∧ ((v.length : Int) - s'.1).toNat < ((v.length : Int) - i).toNat ∧ ∀ r : List Nat, r.length = v.length → r.length = v.length :=
      fun x => ⟨_, rfl, ⟨by simp only; omega, by simp only; omega, by simp; omega⟩, by simp only; omega, fun _ h => h⟩
    by_cases k1 : 0 < i
    · have b5 : inb (i - 1) v.length = true := inb_iff.2 ⟨by omega, by omega⟩
      by_cases k2 : i + 1 < (v.length : Int)
      · have b6 : inb (i + 1) v.length = true := inb_iff.2 ⟨by omega, by omega⟩
        simp only [spec_ThirdsTimes_l0_T, Tree.run, hc, k1, k2, decide_true, if_true, w1, w2, b1, b2, b3, b4, b5, b6, hf]
        exact fin _
      · simp only [spec_ThirdsTimes_l0_T, Tree.run, hc, k1, k2, decide_true, decide_false, Bool.false_eq_true, if_false, if_true, w1, w2, b1, b2, b3, b4, b5, hf]
        exact fin _
    · by_cases k2 : i + 1 < (v.length : Int)
      · have b6 : inb (i + 1) v.length = true := inb_iff.2 ⟨by omega, by omega⟩
        simp only [spec_ThirdsTimes_l0_T, Tree.run, hc, k1, k2, decide_true, decide_false, Bool.false_eq_true, if_false, if_true, w1, w2, b1, b2, b3, b4, b6, hf]
        exact fin _
      · simp only [spec_ThirdsTimes_l0_T, Tree.run, hc, k1, k2, decide_true, decide_false, Bool.false_eq_true, if_false, if_true, w1, w2, b1, b2, b3, b4, hf]
        exact fin _
  · right
    refine ⟨d, by simp only [spec_ThirdsTimes_l0_T, Tree.run, hc, decide_false, Bool.false_eq_true, if_false], by omega⟩
theorem tt_both (l m u v : List Nat) (hl : l.length ≤ maxN) (hm : m.length ≤ maxN) (hu : u.length ≤ maxN) (hv : v.length ≤ maxN) : ∃ r, impl_ThirdsTimes_g l m u v = some r ∧ spec_ThirdsTimes_g l m u v = some r ∧ ∀ d, r = .inr d → d.length ≤ 144 := by
  obtain ⟨b, f1, f2, f3⟩ := fits_both l m u v hl hm hu hv
  cases b with
  | false => exact ⟨.inl (), by simp [impl_ThirdsTimes_g, impl_ThirdsTimes_T, Tree.run, f1], by simp [spec_ThirdsTimes_g, spec_ThirdsTimes_T, Tree.run, f2], fun d h => by cases h⟩
  | true =>
    obtain ⟨h, hvm⟩ := f3 rfl
    obtain ⟨d, g1, g2⟩ := tt_loop l m u v h hvm (0, []) ⟨by simp, by simp, by simp⟩
    have e : impl_ThirdsTimes_l0_g l m u v ((0 : Int), ([] : List Nat)) = some d := g1
    have e' : spec_ThirdsTimes_l0_g l m u v ((0 : Int), ([] : List Nat)) = some d := g1
    have hd : d.length ≤ maxN := by omega
    have hd2 : d.length ≤ 32 := by have := h.2.1; omega
    refine ⟨if d.all sfin = true then .inr d else .inl (), ?_, ?_, ?_⟩
    · simp only [impl_ThirdsTimes_g, impl_ThirdsTimes_T, Tree.run, f1, e, allFinI d hd, Option.bind_some, Bool.not_true, Bool.false_eq_true, if_false, if_true]
      split <;> simp [Tree.run]
    · simp only [spec_ThirdsTimes_g, spec_ThirdsTimes_T, Tree.run, f2, e', listS d hd, Option.bind_some, Bool.not_true, Bool.false_eq_true, if_false, if_true]
      split <;> simp [Tree.run]
    · intro d' h'
      split at h'
      · cases h'; omega
      · cases h'
theorem tt_law (x0 : List Nat) (x1 : List Nat) (x2 : List Nat) (x3 : List Nat) (h0 : x0.length ≤ maxN) (h1 : x1.length ≤ maxN) (h2 : x2.length ≤ maxN) (h3 : x3.length ≤ maxN) : laws_FnExactThirdsTimes_g x0 x1 x2 x3 = some true := by
  have q0 := h0
  have q1 := h1
  have q2 := h2
  have q3 := h3
  unfold maxN at q0 q1 q2 q3
  obtain ⟨r, i1, i2, i3⟩ := tt_both x0 x1 x2 x3 h0 h1 h2 h3
  have en := eqF_self [] (by simp [maxN])
  have hn := held_nil 1 (by omega) (by omega)
  have m0 := markT_ok x0 x1 x2 (1) h0 h1 h2 (by omega) (by omega)
  have m3 := mark_ok x3 (1 + x0.length + x1.length + x2.length) h3 (by omega) (by omega)
  have g1 : decide (((1 : Int) + x0.length + x1.length + x2.length + x3.length : Int) < 0) = false := by simp; omega
  by_cases c3 : (1048576 : Int) < x3.length
  · simp [laws_FnExactThirdsTimes_g, laws_FnExactThirdsTimes_T, Tree.run, c3]
  cases z0 : decide (laws_szThirds_v x0 x1 x2 1048576 < 0)
  case true => simp only [laws_FnExactThirdsTimes_g, laws_FnExactThirdsTimes_T, Tree.run, c3, z0, decide_false, Bool.false_eq_true, if_false, if_true] <;> simp [Tree.run, z0]
  have d3 : decide ((1048576 : Int) < x3.length) = false := by simpa using c3
  cases r with
  | inl u =>
    simp only [laws_FnExactThirdsTimes_g, laws_FnExactThirdsTimes_T, Tree.run, i1, i2, en, hn, mark_nil, m0, toT_ok x0 x1 x2 h0 h1 h2, eqT_self x0 x1 x2 h0 h1 h2, m3, toF_ok x3 h3, eqF_self x3 h3, g1, z0, d3, Option.bind_some, Bool.false_eq_true, if_false, if_true, decide_true, Bool.not_true, Bool.not_false, beq_self_eq_true, marks_length]
    first | done | simp [Tree.run]
  | inr d =>
    have hd := i3 _ rfl
    have hd' : d.length ≤ maxN := by unfold maxN; omega
    have md := mark_ok d 1 hd' (by omega) (by omega)
    have hl := held_ok 1 d.length hd' (by omega) (by omega)
    have g2 : decide ((1 : Int) + d.length < 0) = false := by simp; omega
    simp only [laws_FnExactThirdsTimes_g, laws_FnExactThirdsTimes_T, Tree.run, i1, i2, en, hn, mark_nil, m0, toT_ok x0 x1 x2 h0 h1 h2, eqT_self x0 x1 x2 h0 h1 h2, m3, toF_ok x3 h3, eqF_self x3 h3, g1, z0, d3, md, hl, g2, eqF_self d hd', Option.bind_some, Bool.false_eq_true, if_false, if_true, decide_true, Bool.not_true, Bool.not_false, beq_self_eq_true, marks_length]
    first | done | simp [Tree.run]
theorem tt_lawL (x0 : Nat) (x1 : Nat) (x2 : Nat) (x3 : Nat) (h0 : x0 < 9223372036854775808) (h1 : x1 < 9223372036854775808) (h2 : x2 < 9223372036854775808) (h3 : x3 < 9223372036854775808) (big : maxN < x0 ∨ maxN < x1 ∨ maxN < x2 ∨ maxN < x3) : laws_FnExactThirdsTimes_len_g x0 x1 x2 x3 = some true := by
  unfold maxN at big
  by_cases c3 : (1048576 : Int) < (x3 : Int)
  · simp [laws_FnExactThirdsTimes_len_g, laws_FnExactThirdsTimes_len_T, Tree.run, c3]
  have e := szT_len x0 x1 x2 h0 h1 h2 (by unfold maxN; omega)
  simp only [laws_FnExactThirdsTimes_len_g, laws_FnExactThirdsTimes_len_T, Tree.run, c3, e, decide_false, Bool.false_eq_true, if_false, if_true]
end Go.Proofs.Ytjniaobboclniaa.AM
