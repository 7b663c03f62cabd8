/- The ring of thirds. -/
import Derived.Test.YtooakheodgndaaaL7
set_option linter.unusedSimpArgs false
set_option linter.unusedVariables false
namespace Go.Proofs.Ytooakheodgndaaa.AM

noncomputable def lessL (q : Nat) (xs zs : List Nat) : List Nat := (List.range xs.length).map fun i => fsub .f32 (nth xs i) (fmul .f32 q (nth zs i))
theorem lessL_len (q : Nat) (xs zs : List Nat) : (lessL q xs zs).length = xs.length := by simp [lessL]
theorem lessL_nth (q : Nat) (xs zs : List Nat) (i : Nat) (h : i < xs.length) : nth (lessL q xs zs) i = fsub .f32 (nth xs i) (fmul .f32 q (nth zs i)) := nth_map_range _ _ _ h
theorem lessS (q : Nat) (xs zs : List Nat) (hz : zs.length = xs.length) (hx : xs.length ≤ maxN) : spec_ThirdsRing_l0_g q xs.length xs zs ((0 : Int), ([] : List Nat)) = some (lessL q xs zs) := by
  have hx' := hx
  unfold maxN at hx'
  refine Eq.trans ?_ (whileM_fix (T := fun s => (spec_ThirdsRing_l0_T q xs.length xs zs s).run) (n := xs.length) (r := lessL q xs zs) (fun i => ((i : Int), (lessL q xs zs).take i)) ?_ ?_)
  · simp [spec_ThirdsRing_l0_g]
  · intro i hi
    have e : (lessL q xs zs).take i ++ [fsub .f32 (nth xs i) (fmul .f32 q (nth zs i))] = (lessL q xs zs).take (i + 1) := by
      rw [← lessL_nth q xs zs i hi]; exact take_nth _ _ (by rw [lessL_len]; exact hi)
    have hf : fits ((lessL q xs zs).take (i + 1)).length = true := fits_iff.2 (by have := lessL_len q xs zs; simp; omega)
    simp only [spec_ThirdsRing_l0_T, Tree.run, lt_nat, inb_nat, hz, hi, decide_true, if_true, Int.toNat_natCast, e, hf, w_succ (show i < 4611686018427387904 by omega)]
  · have : (lessL q xs zs).take xs.length = lessL q xs zs := List.take_of_length_le (by rw [lessL_len]; exact Nat.le_refl _)
    simp [spec_ThirdsRing_l0_T, Tree.run, this]
theorem lessI (q : Nat) (xs zs : List Nat) (hz : zs.length = xs.length) (hx : xs.length ≤ maxN) : impl_less_g xs q zs = some (lessL q xs zs) := by
  have hx' := hx
  unfold maxN at hx'
  have key := whileM_for (T := fun s => (impl_less_l0_T xs q zs s).run) (σ := List Nat) (n := xs.length) (s := xs) (r := fun s => s) (fun i Y => ((i : Int), Y))
    (fun i Y => Y.set i (fsub .f32 (nth Y i) (fmul .f32 q (nth zs i))))
    (fun i Y => Y.length = xs.length ∧ (∀ j, j < i → j < xs.length → nth Y j = fsub .f32 (nth xs j) (fmul .f32 q (nth zs j))) ∧ ∀ j, i ≤ j → nth Y j = nth xs j) ⟨rfl, fun j h => by omega, fun j _ => rfl⟩ ?_ ?_
  · obtain ⟨g1, g2, g3, g4⟩ := key
    have : iterN (fun i Y => Y.set i (fsub .f32 (nth Y i) (fmul .f32 q (nth zs i)))) xs.length xs = lessL q xs zs :=
      ext_nth (by rw [g2, lessL_len]) fun i hi => by rw [lessL_nth _ _ _ _ (by omega)]; exact g3 i (by omega) (by omega)
    rw [this] at g1
    have g5 : impl_less_l0_g xs q zs ((0 : Int), xs) = some (lessL q xs zs) := g1
    simp only [impl_less_g, impl_less_T, Tree.run, g5, Option.bind_some, if_true]
  · rintro i Y hi ⟨hl, h1, h2⟩
    refine ⟨?_, by simp [hl], ?_, ?_⟩
    · simp only [impl_less_l0_T, impl_mul_v, Tree.run, lt_nat, inb_nat, hl, hz, hi, decide_true, if_true, Int.toNat_natCast, w_succ (show i < 4611686018427387904 by omega)]
    · intro j hj hj2
      by_cases e : i = j
      · subst e
        rw [nth_set_eq _ _ _ (by omega), h2 i (Nat.le_refl _)]
      · rw [nth_set_ne _ _ _ _ e]; exact h1 j (by omega) hj2
    · intro j hj
      rw [nth_set_ne _ _ _ _ (by omega)]; exact h2 j (by omega)
  · rintro Y ⟨hl, _⟩
    simp [impl_less_l0_T, Tree.run]
noncomputable def ringMid (m : List Nat) (c o n : Nat) : List Nat := (m.set 0 (fsub .f32 (nth m 0) (fneg .f32 (nth m 0)))).set (n - 1) (fsub .f32 (nth (m.set 0 (fsub .f32 (nth m 0) (fneg .f32 (nth m 0)))) (n - 1)) (fdiv .f32 (fmul .f32 c o) (fneg .f32 (nth m 0))))
def ringEnds (m : List Nat) (o n : Nat) : List Nat := ((List.replicate n 0).set 0 (fneg .f32 (nth m 0))).set (n - 1) o
noncomputable def ringQ (m : List Nat) (c n : Nat) (x z : List Nat) : Nat := fdiv .f32 (fadd .f32 (nth x 0) (fdiv .f32 (fmul .f32 c (nth x (n - 1))) (fneg .f32 (nth m 0)))) (fadd .f32 (fadd .f32 1065353216 (nth z 0)) (fdiv .f32 (fmul .f32 c (nth z (n - 1))) (fneg .f32 (nth m 0))))
theorem two_fin (c o : Nat) : impl_areFinite_g [c, o] = some (sfin c && sfin o) := by
  have := areFin [c, o] (by unfold maxN; simp)
  simpa using this
theorem tr_both (l m u : List Nat) (c o : Nat) (v : List Nat) (hl : l.length ≤ maxN) (hm : m.length ≤ maxN) (hu : u.length ≤ maxN) (hv : v.length ≤ maxN) : ∃ r, impl_ThirdsRing_g l m u c o v = some r ∧ spec_ThirdsRing_g l m u c o v = some r ∧ ∀ d, r = .inr d → d.length ≤ 144 := by
  obtain ⟨b, f1, f2, f3⟩ := fits_both l m u v hl hm hu hv
  cases b with
  | false => exact ⟨.inl (), by simp [impl_ThirdsRing_g, impl_ThirdsRing_T, Tree.run, f1], by simp [spec_ThirdsRing_g, spec_ThirdsRing_T, Tree.run, f2], fun d h => by cases h⟩
  | true =>
    obtain ⟨⟨a1, a2, a3, a4⟩, hvm⟩ := f3 rfl
    by_cases n3 : (m.length : Int) < 3
    · exact ⟨.inl (), by simp [impl_ThirdsRing_g, impl_ThirdsRing_T, Tree.run, f1, n3], by simp [spec_ThirdsRing_g, spec_ThirdsRing_T, Tree.run, f2, n3, hvm], fun d h => by cases h⟩
    have n3' : decide ((m.length : Int) < 3) = false := by simpa using n3
    cases hc : sfin c with
    | false => exact ⟨.inl (), by simp [impl_ThirdsRing_g, impl_ThirdsRing_T, Tree.run, f1, n3, two_fin, hc], by simp [spec_ThirdsRing_g, spec_ThirdsRing_T, Tree.run, f2, n3, hvm, finS, hc], fun d h => by cases h⟩
    | true =>
    cases ho : sfin o with
    | false => exact ⟨.inl (), by simp [impl_ThirdsRing_g, impl_ThirdsRing_T, Tree.run, f1, n3, two_fin, hc, ho], by simp [spec_ThirdsRing_g, spec_ThirdsRing_T, Tree.run, f2, n3, hvm, finS, hc, ho], fun d h => by cases h⟩
    | true =>
    have b0 : inb (0 : Int) m.length = true := inb_iff.2 ⟨by omega, by omega⟩
    cases hz : feq .f32 (nth m 0) 0 with
    | true => exact ⟨.inl (), by simp [impl_ThirdsRing_g, impl_ThirdsRing_T, Tree.run, f1, n3, two_fin, hc, ho, b0, hz], by simp [spec_ThirdsRing_g, spec_ThirdsRing_T, Tree.run, f2, n3, hvm, finS, hc, ho, b0, hz], fun d h => by cases h⟩
    | false =>
    have tf : impl_areFinite_g [c, o] = some true := by rw [two_fin, hc, ho]; rfl
    have w : IntKind.i64.wrap ((m.length : Int) - 1) = ((m.length - 1 : Nat) : Int) := by rw [w64 (by omega) (by omega)]; omega
    have b1 : decide (m.length - 1 < m.length) = true := by simp; omega
    have q1 : decide (0 < m.length) = true := by simp; omega
    have q3 : fits m.length = true := fits_iff.2 hm
    have hcl : slices_CloneF_g m = some () := by simp only [slices_CloneF_g, slices_CloneF_T, Tree.run, List.nil_append, q1, q3, if_true]
    have q6 : decide (m.length < maxN + 1) = true := by simp; omega
    have lm : (ringMid m c o m.length).length = m.length := by simp [ringMid]
    have le : (ringEnds m o m.length).length = m.length := by simp [ringEnds]
    obtain ⟨r1, i1, s1, t1⟩ := ts_both2 l (ringMid m c o m.length) u v hl (by omega) hu hv
    obtain ⟨r2, i2, s2, t2⟩ := ts_both2 l (ringMid m c o m.length) u (ringEnds m o m.length) hl (by omega) hu (by omega)
    simp only [ringMid, ringEnds] at i1 s1 i2 s2
    have z0 : Int.toNat 0 = 0 := rfl
    cases r1 with
    | inl _ =>
      refine ⟨.inl (), ?_, ?_, fun d h => by cases h⟩
      · simp only [impl_ThirdsRing_g, impl_ThirdsRing_T, impl_mul_v, Tree.run, f1, n3', tf, b0, z0, hz, hcl, List.nil_append, w, inb_nat, b1, q6, Int.toNat_natCast, i1, i2, Option.bind_some, Bool.not_true, Bool.false_eq_true, if_false, if_true]
        cases r2 <;> simp [Tree.run]
      · simp only [spec_ThirdsRing_g, spec_ThirdsRing_T, Tree.run, f2, hvm, n3', finS, hc, ho, b0, z0, hz, q3, List.nil_append, w, inb_nat, b1, q6, Int.toNat_natCast, s1, s2, Option.bind_some, Bool.not_true, Bool.false_eq_true, if_false, if_true]
        cases r2 <;> simp [Tree.run]
    | inr x =>
      have hx := (t1 x rfl).1
      have b2 : inb (0 : Int) x.length = true := inb_iff.2 ⟨by omega, by omega⟩
      have b3 : decide (m.length - 1 < x.length) = true := by simp; omega
      cases r2 with
      | inl _ =>
        refine ⟨.inl (), ?_, ?_, fun d h => by cases h⟩
        · simp only [impl_ThirdsRing_g, impl_ThirdsRing_T, impl_mul_v, Tree.run, f1, n3', tf, b0, z0, hz, hcl, List.nil_append, w, inb_nat, b1, q6, Int.toNat_natCast, i1, i2, Option.bind_some, Bool.not_true, Bool.false_eq_true, if_false, if_true]
        · simp only [spec_ThirdsRing_g, spec_ThirdsRing_T, Tree.run, f2, hvm, n3', finS, hc, ho, b0, z0, hz, q3, List.nil_append, w, inb_nat, b1, q6, Int.toNat_natCast, s1, s2, Option.bind_some, Bool.not_true, Bool.false_eq_true, if_false, if_true]
      | inr z =>
        have hzl := (t2 z rfl).1
        rw [le] at hzl
        have b4 : inb (0 : Int) z.length = true := inb_iff.2 ⟨by omega, by omega⟩
        have b5 : decide (m.length - 1 < z.length) = true := by simp; omega
        have gI := lessI (ringQ m c m.length x z) x z (by omega) (by omega)
        have gS := lessS (ringQ m c m.length x z) x z (by omega) (by omega)
        have hd := lessL_len (ringQ m c m.length x z) x z
        generalize hD : lessL (ringQ m c m.length x z) x z = d at gI gS hd
        simp only [ringQ] at gI gS
        have hdm : d.length ≤ maxN := by omega
        have hdx : decide (d.length = x.length) = true := by simpa using hd
        refine ⟨if d.all sfin = true then .inr d else .inl (), ?_, ?_, ?_⟩
        · simp only [impl_ThirdsRing_g, impl_ThirdsRing_T, impl_mul_v, Tree.run, f1, n3', tf, b0, z0, hz, hcl, List.nil_append, w, inb_nat, b1, q6, Int.toNat_natCast, i1, i2, b2, b3, b4, b5, gI, hdx, allFinI d hdm, Option.bind_some, Bool.not_true, Bool.false_eq_true, if_false, if_true]
          split <;> simp [Tree.run]
        · simp only [spec_ThirdsRing_g, spec_ThirdsRing_T, Tree.run, f2, hvm, n3', finS, hc, ho, b0, z0, hz, q3, List.nil_append, w, inb_nat, b1, q6, Int.toNat_natCast, s1, s2, b2, b3, b4, b5, gS, listS d hdm, Option.bind_some, Bool.not_true, Bool.false_eq_true, if_false, if_true]
          split <;> simp [Tree.run]
        · intro d' h'
          split at h'
          · cases h'; omega
          · cases h'
theorem tr_law (x0 : List Nat) (x1 : List Nat) (x2 : List Nat) (x3 : Nat) (x4 : Nat) (x5 : List Nat) (h0 : x0.length ≤ maxN) (h1 : x1.length ≤ maxN) (h2 : x2.length ≤ maxN) (h5 : x5.length ≤ maxN) : laws_FnExactThirdsRing_g x0 x1 x2 x3 x4 x5 = some true := by
  have q0 := h0
  have q1 := h1
  have q2 := h2
  have q5 := h5
  unfold maxN at q0 q1 q2 q5
  obtain ⟨r, i1, i2, i3⟩ := tr_both x0 x1 x2 x3 x4 x5 h0 h1 h2 h5
  have en := eqF_self [] (by simp [maxN])
  have hn := held_nil 1 (by omega) (by omega)
  have m0 := markT_ok x0 x1 x2 (1) h0 h1 h2 (by omega) (by omega)
  have m5 := mark_ok x5 (1 + x0.length + x1.length + x2.length) h5 (by omega) (by omega)
  have g1 : decide (((1 : Int) + x0.length + x1.length + x2.length + x5.length : Int) < 0) = false := by simp; omega
  by_cases c5 : (1048576 : Int) < x5.length
  · simp [laws_FnExactThirdsRing_g, laws_FnExactThirdsRing_T, Tree.run, c5]
  cases z0 : decide (laws_szThirds_v x0 x1 x2 1048576 < 0)
  case true => simp only [laws_FnExactThirdsRing_g, laws_FnExactThirdsRing_T, Tree.run, c5, z0, decide_false, Bool.false_eq_true, if_false, if_true] <;> simp [Tree.run, z0]
  have d5 : decide ((1048576 : Int) < x5.length) = false := by simpa using c5
  cases r with
  | inl u =>
    simp only [laws_FnExactThirdsRing_g, laws_FnExactThirdsRing_T, Tree.run, i1, i2, en, hn, mark_nil, m0, toT_ok x0 x1 x2 h0 h1 h2, eqT_self x0 x1 x2 h0 h1 h2, m5, toF_ok x5 h5, eqF_self x5 h5, g1, z0, d5, Option.bind_some, Bool.false_eq_true, if_false, if_true, decide_true, Bool.not_true, Bool.not_false, beq_self_eq_true, marks_length]
    first | done | simp [Tree.run]
  | inr d =>
    have hd := i3 _ rfl
    have hd' : d.length ≤ maxN := by unfold maxN; omega
    have md := mark_ok d 1 hd' (by omega) (by omega)
    have hl := held_ok 1 d.length hd' (by omega) (by omega)
    have g2 : decide ((1 : Int) + d.length < 0) = false := by simp; omega
    simp only [laws_FnExactThirdsRing_g, laws_FnExactThirdsRing_T, Tree.run, i1, i2, en, hn, mark_nil, m0, toT_ok x0 x1 x2 h0 h1 h2, eqT_self x0 x1 x2 h0 h1 h2, m5, toF_ok x5 h5, eqF_self x5 h5, g1, z0, d5, md, hl, g2, eqF_self d hd', Option.bind_some, Bool.false_eq_true, if_false, if_true, decide_true, Bool.not_true, Bool.not_false, beq_self_eq_true, marks_length]
    first | done | simp [Tree.run]
theorem tr_lawL (x0 : Nat) (x1 : Nat) (x2 : Nat) (x3 : Nat) (x4 : Nat) (x5 : Nat) (h0 : x0 < 9223372036854775808) (h1 : x1 < 9223372036854775808) (h2 : x2 < 9223372036854775808) (h5 : x5 < 9223372036854775808) (big : maxN < x0 ∨ maxN < x1 ∨ maxN < x2 ∨ maxN < x5) : laws_FnExactThirdsRing_len_g x0 x1 x2 x5 = some true := by
  unfold maxN at big
  by_cases c5 : (1048576 : Int) < (x5 : Int)
  · simp [laws_FnExactThirdsRing_len_g, laws_FnExactThirdsRing_len_T, Tree.run, c5]
  have e := szT_len x0 x1 x2 h0 h1 h2 (by unfold maxN; omega)
  simp only [laws_FnExactThirdsRing_len_g, laws_FnExactThirdsRing_len_T, Tree.run, c5, e, decide_false, Bool.false_eq_true, if_false, if_true]
end Go.Proofs.Ytooakheodgndaaa.AM
