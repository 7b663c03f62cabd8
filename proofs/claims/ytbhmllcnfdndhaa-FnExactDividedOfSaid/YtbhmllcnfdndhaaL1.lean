/- Divided differences: the program's and the reference's are the same. -/
import Derived.Test.YtbhmllcnfdndhaaL0
import Derived.Test.YtbhmllcnfdndhaaF0
set_option linter.unusedSimpArgs false
set_option linter.unusedVariables false
namespace Go.Proofs.Ytbhmllcnfdndhaa.AM

theorem dd_inner (xs : List Nat) (k : Int) (n : Nat) (hn : xs.length = n) (hn2 : n ≤ 32) (hk : 1 ≤ k) (hk2 : k ≤ 32) : ∀ s : Int × List Nat, (k - 1 ≤ s.1 ∧ s.1 < n ∧ s.2.length = n) →
    ∃ d, whileM (fun s => (impl_DividedOf_l4_T xs k s).run) s = some d ∧ d.length = n := by
  refine whileM_wf (T := fun (s : Int × List Nat) (d : List Nat) => d.length = n) _ (fun (s : Int × List Nat) => k - 1 ≤ s.1 ∧ s.1 < n ∧ s.2.length = n) (fun (s : Int × List Nat) => (s.1 + 1).toNat) ?_
  rintro ⟨i, d⟩ ⟨h1, h2, h3⟩
  simp only at h1 h2 h3
  by_cases hc : k ≤ i
  · left
    have w1 : IntKind.i64.wrap (i - 1) = i - 1 := w64 (by omega) (by omega)
    have w2 : IntKind.i64.wrap (i - k) = i - k := w64 (by omega) (by omega)
    have b1 : inb i d.length = true := inb_iff.2 ⟨by omega, by omega⟩
    have b2 : inb (i - 1) d.length = true := inb_iff.2 ⟨by omega, by omega⟩
    have b3 : inb i xs.length = true := inb_iff.2 ⟨by omega, by omega⟩
    have b4 : inb (i - k) xs.length = true := inb_iff.2 ⟨by omega, by omega⟩
    refine ⟨_, by simp only [impl_DividedOf_l4_T, Tree.run, hc, decide_true, if_true, w1, w2, b1, b2, b3, b4]; rfl, ?_, ?_, fun r h => h⟩
    · simp only [List.length_set]; omega
    · simp only; omega
  · right
    exact ⟨d, by simp [impl_DividedOf_l4_T, Tree.run, hc], h3⟩

theorem dd_outer (xs ys : List Nat) (n : Nat) (hn : xs.length = n) (hn2 : n ≤ 32) : ∀ s : Int × List Nat, (1 ≤ s.1 ∧ s.2.length = n) →
    ∃ d, whileM (fun s => (impl_DividedOf_l2_T xs ys s).run) s = some d ∧ d.length = n := by
  refine whileM_wf (T := fun (s : Int × List Nat) (d : List Nat) => d.length = n) _ (fun (s : Int × List Nat) => 1 ≤ s.1 ∧ s.2.length = n) (fun (s : Int × List Nat) => ((n : Int) - s.1).toNat) ?_
  rintro ⟨k, d⟩ ⟨h1, h3⟩
  simp only at h1 h3
  by_cases hc : k < (n : Int)
  · left
    have w1 : IntKind.i64.wrap ((n : Int) - 1) = n - 1 := w64 (by omega) (by omega)
    have w2 : IntKind.i64.wrap (k + 1) = k + 1 := w64 (by omega) (by omega)
    obtain ⟨d', g1, g2⟩ := dd_inner xs k n hn hn2 h1 (by omega) (n - 1, d) ⟨by simp only; omega, by simp only; omega, h3⟩
    refine ⟨(k + 1, d'), by simp only [impl_DividedOf_l2_T, Tree.run, h3, hc, decide_true, if_true, w1, w2, impl_DividedOf_l4_g, g1, Option.bind_some], ⟨by simp only; omega, g2⟩, by simp only; omega, fun r h => h⟩
  · right
    exact ⟨d, by simp [impl_DividedOf_l2_T, Tree.run, h3, hc], h3⟩

/-- The reference's walk is the same walk. -/
theorem dd_same (xs ys : List Nat) (s : Int × List Nat) (h : s.2.length = xs.length ∧ 1 ≤ s.1) (hn : xs.length ≤ 32) : whileM (fun s => (spec_DividedOf_l4_T xs ys s).run) s = whileM (fun s => (impl_DividedOf_l2_T xs ys s).run) s := by
  refine whileM_congr (fun s => s.2.length = xs.length ∧ 1 ≤ s.1) ?_ s h
  rintro ⟨k, d⟩ ⟨h1, h2⟩
  simp only at h1 h2
  have e : ∀ k s, spec_DividedOf_l6_g xs k s = impl_DividedOf_l4_g xs k s := fun k s => rfl
  refine ⟨by simp only [spec_DividedOf_l4_T, impl_DividedOf_l2_T, Tree.run, h1, e], ?_⟩
  intro s' hs
  by_cases hc : k < (xs.length : Int)
  · have w1 : IntKind.i64.wrap ((xs.length : Int) - 1) = xs.length - 1 := w64 (by omega) (by omega)
    have w2 : IntKind.i64.wrap (k + 1) = k + 1 := w64 (by omega) (by omega)
    obtain ⟨d', g1, g2⟩ := dd_inner xs k xs.length rfl hn h2 (by omega) (xs.length - 1, d) ⟨by simp only; omega, by simp only; omega, h1⟩
    simp only [spec_DividedOf_l4_T, Tree.run, hc, decide_true, if_true, w1, w2, e, impl_DividedOf_l4_g, g1, Option.bind_some, Option.some.injEq, Sum.inl.injEq] at hs
    subst hs
    exact ⟨g2, by simp only; omega⟩
  · simp [spec_DividedOf_l4_T, Tree.run, hc] at hs

/-- Is a number met twice? -/
def twice (xs : List Nat) : Bool := (List.range xs.length).any fun i => (xs.take i).any fun y => feq .f32 (nth xs i) y

theorem contF (xs : List Nat) (v : Nat) (h : xs.length ≤ maxN) : slices_ContainsF_g xs v = some (xs.any fun y => feq .f32 v y) := by
  unfold maxN at h
  have hT : ∀ i, i < xs.length → (slices_IndexF_l0_T xs v (i : Int)).run = if (feq .f32 v (nth xs i)) = true then some (.inr (.inl (i : Int))) else some (.inl ((i + 1 : Nat) : Int)) := by
    intro i hi
    simp only [slices_IndexF_l0_T, Tree.run, lt_nat, inb_nat, hi, decide_true, if_true, Int.toNat_natCast, w_succ (show i < 4611686018427387904 by omega)]
  have he : (slices_IndexF_l0_T xs v (xs.length : Int)).run = some (.inr (.inr ())) := by
    simp [slices_IndexF_l0_T, Tree.run]
  have := whileM_find (T := fun s => (slices_IndexF_l0_T xs v s).run) (p := fun i => feq .f32 v (nth xs i)) (a := fun i => .inl (i : Int)) hT he
  have ha := find_any xs.length (fun i => feq .f32 v (nth xs i))
  rw [any_range (fun y => feq .f32 v y)] at ha
  simp only [slices_ContainsF_g, slices_ContainsF_T, slices_IndexF_g, slices_IndexF_T, Tree.run, if_true, slices_IndexF_l0_g, this]
  rw [← ha]
  cases hf : (List.range xs.length).find? (fun i => feq .f32 v (nth xs i)) <;> simp [Tree.run]

theorem twiceI (xs : List Nat) (h : xs.length ≤ 32) : impl_DividedOf_l0_g xs 0 = some (if twice xs = true then .inl () else .inr ()) := by
  have hT : ∀ i, i < xs.length → (impl_DividedOf_l0_T xs (i : Int)).run = if ((xs.take i).any fun y => feq .f32 (nth xs i) y) = true then some (.inr (.inl ())) else some (.inl ((i + 1 : Nat) : Int)) := by
    intro i hi
    have hs : sok 0 (i : Int) xs.length = true := sok_iff.2 ⟨by omega, by omega, by omega⟩
    have e : AM.sub xs 0 (i : Int) = xs.take i := by simp [AM.sub]
    have hl : (xs.take i).length ≤ maxN := by unfold maxN; simp; omega
    simp only [impl_DividedOf_l0_T, Tree.run, lt_nat, inb_nat, hi, decide_true, if_true, Int.toNat_natCast, hs, e, contF _ _ hl, Option.bind_some, w_succ (show i < 4611686018427387904 by omega)]
  have he : (impl_DividedOf_l0_T xs (xs.length : Int)).run = some (.inr (.inr ())) := by
    simp [impl_DividedOf_l0_T, Tree.run]
  exact whileM_scan (T := fun s => (impl_DividedOf_l0_T xs s).run) hT he
theorem twiceS (xs ys : List Nat) (h : xs.length ≤ 32) : spec_DividedOf_l0_g xs ys 0 = some (if twice xs = true then .inl () else .inr ()) := by
  have hin : ∀ i, i < xs.length → spec_DividedOf_l2_g xs (i : Int) 0 = some (if ((xs.take i).any fun y => feq .f32 (nth xs i) y) = true then .inl () else .inr ()) := by
    intro i hi
    have hT : ∀ k, k < i → (spec_DividedOf_l2_T xs (i : Int) (k : Int)).run = if (feq .f32 (nth xs i) (nth xs k)) = true then some (.inr (.inl ())) else some (.inl ((k + 1 : Nat) : Int)) := by
      intro k hk
      simp only [spec_DividedOf_l2_T, Tree.run, lt_nat, inb_nat, hi, hk, show k < xs.length by omega, decide_true, if_true, Int.toNat_natCast, w_succ (show k < 4611686018427387904 by omega)]
    have he : (spec_DividedOf_l2_T xs (i : Int) (i : Int)).run = some (.inr (.inr ())) := by
      simp [spec_DividedOf_l2_T, Tree.run]
    have := whileM_scan (T := fun s => (spec_DividedOf_l2_T xs (i : Int) s).run) hT he
    have e : (List.range i).any (fun k => feq .f32 (nth xs i) (nth xs k)) = (xs.take i).any fun y => feq .f32 (nth xs i) y := by
      have := any_range (fun y => feq .f32 (nth xs i) y) (xs.take i)
      rw [← this]
      rw [show (xs.take i).length = i by simp; omega, Bool.eq_iff_iff, List.any_eq_true, List.any_eq_true]
      have hh : ∀ k, k < i → nth (xs.take i) k = nth xs k := fun k hk => by
        rw [nth_of _ _ (by simp; omega), nth_of _ _ (by omega)]; simp
      constructor <;> (rintro ⟨k, hk, h2⟩; refine ⟨k, hk, ?_⟩; have := hh k (by simpa using hk); simpa [this] using h2)
    rw [e] at this
    exact this
  have hT : ∀ i, i < xs.length → (spec_DividedOf_l0_T xs ys (i : Int)).run = if ((xs.take i).any fun y => feq .f32 (nth xs i) y) = true then some (.inr (.inl ())) else some (.inl ((i + 1 : Nat) : Int)) := by
    intro i hi
    simp only [spec_DividedOf_l0_T, Tree.run, lt_nat, hi, decide_true, if_true, hin i hi, Option.bind_some, w_succ (show i < 4611686018427387904 by omega)]
    split <;> simp [Tree.run]
  have he : (spec_DividedOf_l0_T xs ys (xs.length : Int)).run = some (.inr (.inr ())) := by
    simp [spec_DividedOf_l0_T, Tree.run]
  exact whileM_scan (T := fun s => (spec_DividedOf_l0_T xs ys s).run) hT he

/-- What both come to. -/
theorem dd_both (xs ys : List Nat) (hx : xs.length ≤ maxN) (hy : ys.length ≤ maxN) : ∃ r, impl_DividedOf_g xs ys = some r ∧ spec_DividedOf_g xs ys = some r ∧ ∀ d, r = .inr d → d.length ≤ 32 := by
  by_cases h1 : 1 ≤ xs.length ∧ xs.length ≤ 32 ∧ ys.length = xs.length ∧ xs.all sfin = true ∧ ys.all sfin = true
  · obtain ⟨a1, a2, a3, a4, a5⟩ := h1
    have c1 : decide ((1 : Int) ≤ (xs.length : Int)) = true := by simp; omega
    have c2 : decide ((xs.length : Int) ≤ 32) = true := by simp; omega
    have c3 : decide ((xs.length : Int) < 1) = false := by simp; omega
    have c4 : decide ((32 : Int) < (xs.length : Int)) = false := by simp; omega
    have c5 : decide (0 < ys.length) = true := by simp; omega
    have c6 : fits ys.length = true := fits_iff.2 hy
    have c5' : decide (0 < xs.length) = true := by simp; omega
    have c6' : fits xs.length = true := fits_iff.2 hx
    have c7 : 0 < xs.length := by omega
    obtain ⟨d, g1, g2⟩ := dd_outer xs ys xs.length rfl a2 (1, ys) ⟨Int.le_refl _, a3⟩
    have g3 := dd_same xs ys (1, ys) ⟨a3, Int.le_refl _⟩ a2
    rw [g1] at g3
    have hd : d.length ≤ maxN := by unfold maxN; omega
    refine ⟨if twice xs = true then .inl () else if d.all sfin = true then .inr d else .inl (), ?_, ?_, ?_⟩
    · simp only [impl_DividedOf_g, impl_DividedOf_T, Tree.run, isListI xs 32 hx, isListI ys 32 hy, a3, a4, a5, c1, c2, twiceI xs a2, slices_CloneF_g, slices_CloneF_T, c5, c6, List.nil_append, impl_DividedOf_l2_g, g1, Option.bind_some, allFinI d hd,
        Bool.and_self, Bool.not_true, Bool.false_eq_true, if_false, if_true, decide_true]
      cases h1 : twice xs <;> cases h2 : d.all sfin <;> simp [Tree.run, c5, c6, c5', c6', c7, a3, g1, allFinI d hd, h2]
    · simp only [spec_DividedOf_g, spec_DividedOf_T, Tree.run, finiteS xs hx, finiteS ys hy, a3, a4, a5, c3, c4, twiceS xs ys a2, c6, List.nil_append, spec_DividedOf_l4_g, g3, Option.bind_some, listS d hd,
        Bool.not_true, Bool.false_eq_true, if_false, if_true, decide_true]
      cases h1 : twice xs <;> cases h2 : d.all sfin <;> simp [Tree.run, c6, c6', c7, a3, g3, listS d hd, h2]
    · intro d' h
      split at h
      · cases h
      · split at h
        · cases h; omega
        · cases h
  · refine ⟨.inl (), ?_, ?_, fun d h => by cases h⟩
    · simp only [impl_DividedOf_g, impl_DividedOf_T, Tree.run, isListI xs 32 hx, isListI ys 32 hy, Option.bind_some]
      split
      · rfl
      · split
        · rfl
        · split
          · rfl
          · exfalso
            rename_i k1 k2 k3
            simp at k1 k2 k3
            exact h1 ⟨by omega, by omega, by omega, by simpa using k1.2, by simpa using k2.2⟩
    · simp only [spec_DividedOf_g, spec_DividedOf_T, Tree.run, finiteS xs hx, finiteS ys hy, Option.bind_some]
      split
      · rfl
      · split
        · rfl
        · split
          · rfl
          · split
            · rfl
            · split
              · rfl
              · exfalso
                rename_i k1 k2 k3 k4 k5
                simp at k1 k2 k3 k4 k5
                exact h1 ⟨by omega, by omega, by omega, by simpa using k4, by simpa using k5⟩
end Go.Proofs.Ytbhmllcnfdndhaa.AM
