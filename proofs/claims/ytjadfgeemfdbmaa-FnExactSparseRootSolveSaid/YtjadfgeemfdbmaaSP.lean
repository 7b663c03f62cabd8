/- Sparse squares: which are valid; a square times a vector. -/
import Derived.Test.YtjadfgeemfdbmaaI0
set_option linter.unusedSimpArgs false
set_option linter.unusedVariables false
set_option maxHeartbeats 1000000
namespace Go.Proofs.Ytjadfgeemfdbmaa.AM

theorem toSp_ok (n : Int) (a b : List Int) (c : List Nat) (ha : a.length ≤ maxN) (hb : b.length ≤ maxN) (hc : c.length ≤ maxN) : laws_toSparse_g n a b c = some (n, a, b, c) := by
  simp [laws_toSparse_g, laws_toSparse_T, Tree.run, toI_ok a ha, toI_ok b hb, toF_ok c hc]
theorem eqSp_self (n : Int) (a b : List Int) (c : List Nat) (ha : a.length ≤ maxN) (hb : b.length ≤ maxN) (hc : c.length ≤ maxN) : laws_eqSparse_g n a b c n a b c = some true := by
  simp [laws_eqSparse_g, laws_eqSparse_T, Tree.run, eqI_self a ha, eqI_self b hb, eqF_self c hc]
theorem markSp_ok (a b : List Int) (c : List Nat) (k : Int) (ha : a.length ≤ maxN) (hb : b.length ≤ maxN) (hc : c.length ≤ maxN) (h0 : 0 ≤ k) (h1 : k ≤ 549755813888) :
    laws_markSparse_g a b c k = some (k + a.length + b.length + c.length, marksI k a.length, marksI (k + a.length) b.length, marks (k + a.length + b.length) c.length) := by
  have qa := ha
  have qb := hb
  unfold maxN at qa qb
  simp [laws_markSparse_g, laws_markSparse_T, Tree.run, markI_ok a k ha h0 (by omega), markI_ok b (k + a.length) hb (by omega) (by omega), mark_ok c (k + a.length + b.length) hc (by omega) (by omega)]
theorem szSp_len (a b c : Nat) (l : Int) (ha : a < 9223372036854775808) (hb : b < 9223372036854775808) (hc : c < 9223372036854775808) (hl : 0 ≤ l) (h2 : l ≤ 1048576) (big : maxN < a ∨ maxN < b ∨ maxN < c) : decide (laws_szSparse_len_v a b c l < 0) = true := by
  unfold maxN at big
  have e1 : IntKind.i64.wrap (l - (a : Int)) = l - a := w64 (by omega) (by omega)
  unfold laws_szSparse_len_v laws_szInt64S_len_v laws_szFloat32S_len_v
  rw [e1]
  by_cases h1 : l - (a : Int) < 0
  · simp [h1]
  · have e2 : IntKind.i64.wrap (l - (a : Int) - (b : Int)) = l - a - b := w64 (by omega) (by omega)
    simp only [h1, decide_false, Bool.false_eq_true, if_false]
    rw [e2]
    by_cases h3 : l - (a : Int) - (b : Int) < 0
    · simp [h3]
    · have e3 : IntKind.i64.wrap (l - (a : Int) - (b : Int) - (c : Int)) = l - a - b - c := w64 (by omega) (by omega)
      simp only [h3, decide_false, Bool.false_eq_true, if_false]
      rw [e3]
      have h4 : l - (a : Int) - (b : Int) - (c : Int) < 0 := by omega
      simp [h4]

/-- A valid sparse square. -/
structure SpOk (n : Int) (st cl : List Int) (vs : List Nat) : Prop where
  n1 : 1 ≤ n
  n2 : n ≤ 32
  ls : (st.length : Int) = n + 1
  lc : cl.length ≤ 512
  lv : vs.length = cl.length
  first : nth st (Int.toNat 0) = 0
  last : nth st (Int.toNat n) = cl.length
  mono : ∀ i : Int, 0 ≤ i → i < n → nth st (Int.toNat i) ≤ nth st (Int.toNat (i + 1))
  inr : ∀ k : Int, 0 ≤ k → k < cl.length → 0 ≤ nth cl (Int.toNat k) ∧ nth cl (Int.toNat k) ≤ n - 1
  up : ∀ i : Int, 0 ≤ i → i < n → ∀ k : Int, nth st (Int.toNat i) < k → k < nth st (Int.toNat (i + 1)) → nth cl (Int.toNat (k - 1)) < nth cl (Int.toNat k)
  fin : vs.all sfin = true
theorem mono_le {f : Int → Int} {n : Int} : ∀ (d : Nat) (i : Int), 0 ≤ i → (∀ j, i ≤ j → j < i + d → f j ≤ f (j + 1)) → f i ≤ f (i + d)
  | 0, i, _, _ => by simp
  | d + 1, i, hi, h => by
    have h1 := h i (Int.le_refl _) (by omega)
    have h2 := mono_le (n := n) d (i + 1) (by omega) fun j q1 q2 => h j (by omega) (by omega)
    have e : i + 1 + (d : Int) = i + ((d + 1 : Nat) : Int) := by omega
    rw [e] at h2
    omega
theorem mono_le' {f : Int → Int} {i j : Int} (h0 : 0 ≤ i) (hij : i ≤ j) (h : ∀ k, i ≤ k → k < j → f k ≤ f (k + 1)) : f i ≤ f j := by
  have := mono_le (f := f) (n := 0) (j - i).toNat i h0 fun k q1 q2 => h k q1 (by omega)
  have e : i + ((j - i).toNat : Int) = j := by omega
  rwa [e] at this
theorem SpOk.pos {n : Int} {st cl : List Int} {vs : List Nat} (h : SpOk n st cl vs) {i : Int} (h0 : 0 ≤ i) (h1 : i ≤ n) : 0 ≤ nth st (Int.toNat i) ∧ nth st (Int.toNat i) ≤ cl.length := by
  have a := mono_le' (f := fun i => nth st (Int.toNat i)) (i := 0) (j := i) (Int.le_refl _) h0 fun k q1 q2 => h.mono k q1 (by omega)
  have b := mono_le' (f := fun i => nth st (Int.toNat i)) (i := i) (j := n) h0 h1 fun k q1 q2 => h.mono k (by omega) q2
  simp only [h.first, h.last] at a b
  exact ⟨a, b⟩

theorem lessI (a b : Int) : cmp_LessI_v a b = decide (a < b) := by
  unfold cmp_LessI_v cmp_isNaNI_v
  simp
/-- Is a list of whole numbers in order? -/
theorem sortedI (xs : List Int) (h : xs.length ≤ maxN) : ∃ b, slices_IsSortedI_g xs = some b ∧ (b = true ↔ ∀ k : Int, 1 ≤ k → k ≤ (xs.length : Int) - 1 → nth xs (Int.toNat (k - 1)) ≤ nth xs (Int.toNat k)) := by
  unfold maxN at h
  have e0 : IntKind.i64.wrap (((xs.length : Nat) : Int) - (1 : Int)) = (xs.length : Int) - 1 := w64 (by omega) (by omega)
  have hl : ((∃ k : Int, 1 ≤ k ∧ k ≤ (xs.length : Int) - 1 ∧ nth xs (Int.toNat k) < nth xs (Int.toNat (k - 1))) ∧ whileM (fun s => (slices_IsSortedI_l0_T xs s).run) ((xs.length : Int) - 1) = some (.inl ())) ∨ ((∀ k : Int, 1 ≤ k → k ≤ (xs.length : Int) - 1 → ¬ nth xs (Int.toNat k) < nth xs (Int.toNat (k - 1))) ∧ whileM (fun s => (slices_IsSortedI_l0_T xs s).run) ((xs.length : Int) - 1) = some (.inr ())) := by
    refine scanD (T := fun s => (slices_IsSortedI_l0_T xs s).run) (fun k => nth xs (Int.toNat k) < nth xs (Int.toNat (k - 1))) ?_ ?_
    · intro k h1 h2
      have c0 : decide ((0 : Int) < k) = true := decide_eq_true (by omega)
      have c1 : inb k xs.length = true := inb_iff.2 ⟨by omega, by omega⟩
      have c2 : inb (k - 1) xs.length = true := inb_iff.2 ⟨by omega, by omega⟩
      have e1 : IntKind.i64.wrap (k - (1 : Int)) = k - 1 := w64 (by omega) (by omega)
      by_cases q : nth xs (Int.toNat k) < nth xs (Int.toNat (k - 1))
      · exact .inl ⟨q, by simp only [slices_IsSortedI_l0_T, Tree.run, c0, c1, e1, c2, lessI, decide_eq_true q, if_true]⟩
      · exact .inr ⟨q, by simp only [slices_IsSortedI_l0_T, Tree.run, c0, c1, e1, c2, lessI, decide_eq_false q, if_true, Bool.false_eq_true, if_false]⟩
    · intro k h1 h2 h3
      have c0 : decide ((0 : Int) < k) = false := decide_eq_false (by omega)
      simp only [slices_IsSortedI_l0_T, Tree.run, c0, Bool.false_eq_true, if_false]
  rcases hl with ⟨⟨k, k1, k2, k3⟩, g⟩ | ⟨k1, g⟩
  · refine ⟨false, by simp only [slices_IsSortedI_g, slices_IsSortedI_T, Tree.run, if_true, e0, slices_IsSortedI_l0_g, g, Option.bind_some], fun h => (by cases h), fun h => ?_⟩
    have := h k k1 k2
    omega
  · refine ⟨true, by simp only [slices_IsSortedI_g, slices_IsSortedI_T, Tree.run, if_true, e0, slices_IsSortedI_l0_g, g, Option.bind_some], fun _ k q1 q2 => ?_, fun _ => rfl⟩
    have := k1 k q1 q2
    omega
/-- Do all numbers lie between two? -/
theorem allInI (xs : List Int) (a b : Int) (h : xs.length ≤ maxN) : ∃ r, impl_allIn_g xs a b = some r ∧ (r = true ↔ ∀ k : Int, 0 ≤ k → k < xs.length → a ≤ nth xs (Int.toNat k) ∧ nth xs (Int.toNat k) ≤ b) := by
  unfold maxN at h
  have hT : ∀ i, i < xs.length → (slices_IndexFuncI_l0_T xs a b (i : Int)).run = if (!(decide (a ≤ nth xs i) && decide (nth xs i ≤ b))) = true then some (.inr (.inl (i : Int))) else some (.inl ((i + 1 : Nat) : Int)) := by
    intro i hi
    simp only [slices_IndexFuncI_l0_T, Tree.run, lt_nat, inb_nat, hi, decide_true, if_true, impl_allIn_1_v, inR, Int.toNat_natCast, w_succ (show i < 4611686018427387904 by omega)]
  have he : (slices_IndexFuncI_l0_T xs a b (xs.length : Int)).run = some (.inr (.inr ())) := by
    simp [slices_IndexFuncI_l0_T, Tree.run]
  have := whileM_find (T := fun s => (slices_IndexFuncI_l0_T xs a b s).run) (p := fun i => !(decide (a ≤ nth xs i) && decide (nth xs i ≤ b))) (a := fun i => .inl (i : Int)) hT he
  simp only [impl_allIn_g, impl_allIn_T, slices_ContainsFuncI_g, slices_ContainsFuncI_T, slices_IndexFuncI_g, slices_IndexFuncI_T, Tree.run, if_true, slices_IndexFuncI_l0_g, this]
  cases hf : (List.range xs.length).find? (fun i => !(decide (a ≤ nth xs i) && decide (nth xs i ≤ b))) with
  | none =>
    refine ⟨true, by simp [Tree.run], fun _ k h1 h2 => ?_, fun _ => rfl⟩
    have := List.find?_eq_none.1 hf k.toNat (by simp; omega)
    simpa using this
  | some i =>
    have h1 := List.find?_some hf
    have h2 := List.mem_of_find?_eq_some hf
    rw [List.mem_range] at h2
    refine ⟨false, by simp [Tree.run], fun h => (by cases h), fun h => ?_⟩
    have := h i (by omega) (by omega)
    simp only [Int.toNat_natCast] at this
    simp [this.1, this.2] at h1

theorem spI (n : Int) (st cl : List Int) (vs : List Nat) (h1 : st.length ≤ maxN) (h2 : cl.length ≤ maxN) (h3 : vs.length ≤ maxN) : ∃ b, impl_ValidSparse_g n st cl vs = some b ∧ (b = true ↔ SpOk n st cl vs) := by
  have qs := h1
  unfold maxN at qs
  by_cases a1 : 1 ≤ n
  case neg => exact ⟨false, by simp [impl_ValidSparse_g, impl_ValidSparse_T, Tree.run, inR, a1], fun h => (by cases h), fun h => absurd h.n1 a1⟩
  by_cases a2 : n ≤ 32
  case neg => exact ⟨false, by simp [impl_ValidSparse_g, impl_ValidSparse_T, Tree.run, inR, a1, a2], fun h => (by cases h), fun h => absurd h.n2 a2⟩
  have en : IntKind.i64.wrap (n + (1 : Int)) = n + 1 := w64 (by omega) (by omega)
  have en1 : IntKind.i64.wrap (n - (1 : Int)) = n - 1 := w64 (by omega) (by omega)
  by_cases a3 : (st.length : Int) = n + 1
  case neg => exact ⟨false, by simp [impl_ValidSparse_g, impl_ValidSparse_T, Tree.run, inR, impl_lengthI_v, a1, a2, en, a3], fun h => (by cases h), fun h => absurd h.ls a3⟩
  by_cases a4 : (512 : Int) < (cl.length : Int)
  case pos => exact ⟨false, by simp [impl_ValidSparse_g, impl_ValidSparse_T, Tree.run, inR, impl_lengthI_v, a1, a2, en, a3, a4], fun h => (by cases h), fun h => by have := h.lc; omega⟩
  by_cases a5 : (vs.length : Int) = (cl.length : Int)
  case neg => exact ⟨false, by simp [impl_ValidSparse_g, impl_ValidSparse_T, Tree.run, inR, impl_lengthI_v, a1, a2, en, a3, a4, a5], fun h => (by cases h), fun h => by have := h.lv; omega⟩
  have c0 : inb (0 : Int) st.length = true := inb_iff.2 ⟨by omega, by omega⟩
  have cn : inb n st.length = true := inb_iff.2 ⟨by omega, by omega⟩
  have d1 := decide_eq_true a1
  have d2 := decide_eq_true a2
  have d3 : decide (impl_lengthI_v st = n + 1) = true := decide_eq_true a3
  have d4 : decide ((512 : Int) < impl_lengthI_v cl) = false := decide_eq_false a4
  have d5 : decide ((vs.length : Int) = (cl.length : Int)) = true := decide_eq_true a5
  obtain ⟨b1, g1, g2⟩ := sortedI st h1
  obtain ⟨b2, g3, g4⟩ := allInI cl 0 (n - 1) h2
  have g5 := areFin vs h3
  by_cases a6 : nth st (Int.toNat 0) = 0
  case neg =>
    have d6 : decide (nth st (Int.toNat 0) = 0) = false := decide_eq_false a6
    refine ⟨false, ?_, fun h => (by cases h), fun h => absurd h.first a6⟩
    simp only [impl_ValidSparse_g, impl_ValidSparse_T, Tree.run, inR, d1, d2, en, d3, d4, d5, c0, d6, Bool.and_self, Bool.not_true, Bool.not_false, Bool.false_eq_true, if_false, if_true]
  by_cases a7 : nth st (Int.toNat n) = cl.length
  case neg =>
    have d6 : decide (nth st (Int.toNat 0) = 0) = true := decide_eq_true a6
    have d7 : decide (nth st (Int.toNat n) = impl_lengthI_v cl) = false := decide_eq_false a7
    refine ⟨false, ?_, fun h => (by cases h), fun h => absurd h.last a7⟩
    simp only [impl_ValidSparse_g, impl_ValidSparse_T, Tree.run, inR, d1, d2, en, d3, d4, d5, c0, d6, cn, d7, Bool.and_self, Bool.not_true, Bool.not_false, Bool.false_eq_true, if_false, if_true]
  have d6 : decide (nth st (Int.toNat 0) = 0) = true := decide_eq_true a6
  have d7 : decide (nth st (Int.toNat n) = impl_lengthI_v cl) = true := decide_eq_true a7
  have mono_of : b1 = true → ∀ i : Int, 0 ≤ i → i < n → nth st (Int.toNat i) ≤ nth st (Int.toNat (i + 1)) := fun hb i q1 q2 => by
    have := g2.1 hb (i + 1) (by omega) (by omega)
    rwa [show i + 1 - 1 = i by omega] at this
  cases b1 with
  | false =>
    refine ⟨false, ?_, fun h => (by cases h), fun h => ?_⟩
    · simp only [impl_ValidSparse_g, impl_ValidSparse_T, Tree.run, inR, d1, d2, en, d3, d4, d5, c0, d6, cn, d7, g1, Option.bind_some, Bool.and_self, Bool.not_true, Bool.not_false, Bool.false_eq_true, if_false, if_true]
    · refine (Bool.false_ne_true (g2.2 fun k q1 q2 => ?_)).elim
      have := h.mono (k - 1) (by omega) (by omega)
      rwa [show k - 1 + 1 = k by omega] at this
  | true =>
  cases b2 with
  | false =>
    refine ⟨false, ?_, fun h => (by cases h), fun h => (Bool.false_ne_true (g4.2 h.inr)).elim⟩
    simp only [impl_ValidSparse_g, impl_ValidSparse_T, Tree.run, inR, d1, d2, en, en1, d3, d4, d5, c0, d6, cn, d7, g1, g3, Option.bind_some, Bool.and_self, Bool.not_true, Bool.not_false, Bool.false_eq_true, if_false, if_true]
  | true =>
  cases hf : vs.all sfin with
  | false =>
    rw [hf] at g5
    refine ⟨false, ?_, fun h => (by cases h), fun h => absurd h.fin (by rw [hf]; simp)⟩
    simp only [impl_ValidSparse_g, impl_ValidSparse_T, Tree.run, inR, d1, d2, en, en1, d3, d4, d5, c0, d6, cn, d7, g1, g3, g5, Option.bind_some, Bool.and_self, Bool.not_true, Bool.not_false, Bool.false_eq_true, if_false, if_true]
  | true =>
  rw [hf] at g5
  have hm := mono_of rfl
  have hin := g4.1 rfl
  have pos : ∀ i : Int, 0 ≤ i → i ≤ n → 0 ≤ nth st (Int.toNat i) ∧ nth st (Int.toNat i) ≤ cl.length := fun i q1 q2 => by
    have a := mono_le' (f := fun i => nth st (Int.toNat i)) (i := 0) (j := i) (Int.le_refl _) q1 fun k q1 q2 => hm k q1 (by omega)
    have b := mono_le' (f := fun i => nth st (Int.toNat i)) (i := i) (j := n) q1 q2 fun k q1 q2 => hm k (by omega) q2
    simp only [a6, a7] at a b
    exact ⟨a, b⟩
  have main := scanI (T := fun s => (impl_ValidSparse_l0_T n st cl vs s).run) (x := Sum.inl ()) (y := Sum.inr ()) (a := 0) (b := n)
    (fun i => ∃ k : Int, nth st (Int.toNat i) + 1 ≤ k ∧ k < nth st (Int.toNat (i + 1)) ∧ nth cl (Int.toNat k) ≤ nth cl (Int.toNat (k - 1))) (by
    intro i q1 q2 _
    obtain ⟨p1, p2⟩ := pos i q1 (by omega)
    obtain ⟨p3, p4⟩ := pos (i + 1) (by omega) (by omega)
    have e1 : IntKind.i64.wrap (i + (1 : Int)) = i + 1 := w64 (by omega) (by omega)
    have e2 : IntKind.i64.wrap (nth st (Int.toNat i) + (1 : Int)) = nth st (Int.toNat i) + 1 := w64 (by omega) (by omega)
    have k1 : inb i st.length = true := inb_iff.2 ⟨by omega, by omega⟩
    have k2 : inb (i + 1) st.length = true := inb_iff.2 ⟨by omega, by omega⟩
    have k0 : decide (i < n) = true := decide_eq_true q2
    have inner := scanI (T := fun s => (impl_ValidSparse_l2_T st cl i s).run) (x := Sum.inl ()) (y := Sum.inr ()) (a := nth st (Int.toNat i) + 1) (b := nth st (Int.toNat (i + 1)))
      (fun k => nth cl (Int.toNat k) ≤ nth cl (Int.toNat (k - 1))) (by
      intro k r1 r2 _
      have f0 : decide (k < nth st (Int.toNat (i + 1))) = true := decide_eq_true r2
      have f1 : inb (k - 1) cl.length = true := inb_iff.2 ⟨by omega, by omega⟩
      have f2 : inb k cl.length = true := inb_iff.2 ⟨by omega, by omega⟩
      have f3 : IntKind.i64.wrap (k - (1 : Int)) = k - 1 := w64 (by omega) (by omega)
      have f4 : IntKind.i64.wrap (k + (1 : Int)) = k + 1 := w64 (by omega) (by omega)
      by_cases q : nth cl (Int.toNat k) ≤ nth cl (Int.toNat (k - 1))
      · exact .inl ⟨q, by simp only [impl_ValidSparse_l2_T, Tree.run, e1, k2, f0, f1, f2, f3, f4, decide_eq_true q, if_true]⟩
      · exact .inr ⟨q, by simp only [impl_ValidSparse_l2_T, Tree.run, e1, k2, f0, f1, f2, f3, f4, decide_eq_false q, if_true, Bool.false_eq_true, if_false]⟩) (by
      intro k r1 r2 _
      have f0 : decide (k < nth st (Int.toNat (i + 1))) = false := decide_eq_false (by omega)
      simp only [impl_ValidSparse_l2_T, Tree.run, e1, k2, f0, if_true, Bool.false_eq_true, if_false])
    rcases inner with ⟨⟨k, m1, m2, m3⟩, g⟩ | ⟨m1, g⟩
    · exact .inl ⟨⟨k, m1, m2, m3⟩, by simp only [impl_ValidSparse_l0_T, Tree.run, k0, k1, e2, impl_ValidSparse_l2_g, g, Option.bind_some, if_true]⟩
    · exact .inr ⟨fun ⟨k, m2, m3, m4⟩ => m1 k m2 m3 m4, by simp only [impl_ValidSparse_l0_T, Tree.run, k0, k1, e1, e2, impl_ValidSparse_l2_g, g, Option.bind_some, if_true]⟩) (by
    intro i q1 q2 _
    have k0 : decide (i < n) = false := decide_eq_false (by omega)
    simp only [impl_ValidSparse_l0_T, Tree.run, k0, Bool.false_eq_true, if_false])
  rcases main with ⟨⟨i, i1, i2, k, m1, m2, m3⟩, g⟩ | ⟨m1, g⟩
  · refine ⟨false, ?_, fun h => (by cases h), fun h => ?_⟩
    · simp only [impl_ValidSparse_g, impl_ValidSparse_T, Tree.run, inR, d1, d2, en, en1, d3, d4, d5, c0, d6, cn, d7, g1, g3, g5, impl_ValidSparse_l0_g, g, Option.bind_some, Bool.and_self, Bool.not_true, Bool.not_false, Bool.false_eq_true, if_false, if_true]
    · have := h.up i i1 i2 k (by omega) m2
      omega
  · refine ⟨true, ?_, fun _ => ⟨a1, a2, a3, by omega, by omega, a6, a7, hm, hin, fun i i1 i2 k q1 q2 => ?_, hf⟩, fun _ => rfl⟩
    · simp only [impl_ValidSparse_g, impl_ValidSparse_T, Tree.run, inR, d1, d2, en, en1, d3, d4, d5, c0, d6, cn, d7, g1, g3, g5, impl_ValidSparse_l0_g, g, Option.bind_some, Bool.and_self, Bool.not_true, Bool.not_false, Bool.false_eq_true, if_false, if_true]
    · rcases Int.lt_or_le (nth cl (Int.toNat (k - 1))) (nth cl (Int.toNat k)) with h | h
      · exact h
      · exact absurd ⟨k, by omega, q2, h⟩ (m1 i i1 i2)

theorem spS (n : Int) (st cl : List Int) (vs : List Nat) (h1 : st.length ≤ maxN) (h2 : cl.length ≤ maxN) (h3 : vs.length ≤ maxN) : ∃ b, spec_l05Is_g n st cl vs = some b ∧ (b = true ↔ SpOk n st cl vs) := by
  have qs := h1
  unfold maxN at qs
  by_cases a1 : 1 ≤ n
  case neg => exact ⟨false, by simp [spec_l05Is_g, spec_l05Is_T, Tree.run, spec_l00In_v, a1], fun h => (by cases h), fun h => absurd h.n1 a1⟩
  by_cases a2 : n ≤ 32
  case neg => exact ⟨false, by simp [spec_l05Is_g, spec_l05Is_T, Tree.run, spec_l00In_v, a1, a2], fun h => (by cases h), fun h => absurd h.n2 a2⟩
  have en : IntKind.i64.wrap (n + (1 : Int)) = n + 1 := w64 (by omega) (by omega)
  have en1 : IntKind.i64.wrap (n - (1 : Int)) = n - 1 := w64 (by omega) (by omega)
  by_cases a3 : (st.length : Int) = n + 1
  case neg => exact ⟨false, by simp [spec_l05Is_g, spec_l05Is_T, Tree.run, spec_l00In_v, a1, a2, en, a3], fun h => (by cases h), fun h => absurd h.ls a3⟩
  by_cases a4 : (512 : Int) < (cl.length : Int)
  case pos => exact ⟨false, by simp [spec_l05Is_g, spec_l05Is_T, Tree.run, spec_l00In_v, a1, a2, en, a3, a4], fun h => (by cases h), fun h => by have := h.lc; omega⟩
  by_cases a5 : (vs.length : Int) = (cl.length : Int)
  case neg => exact ⟨false, by simp [spec_l05Is_g, spec_l05Is_T, Tree.run, spec_l00In_v, a1, a2, en, a3, a4, a5], fun h => (by cases h), fun h => by have := h.lv; omega⟩
  have c0 : inb (0 : Int) st.length = true := inb_iff.2 ⟨by omega, by omega⟩
  have cn : inb n st.length = true := inb_iff.2 ⟨by omega, by omega⟩
  have d1 := decide_eq_true a1
  have d2 := decide_eq_true a2
  have d3 : decide ((st.length : Int) = n + 1) = true := decide_eq_true a3
  have d4 : decide ((512 : Int) < (cl.length : Int)) = false := decide_eq_false a4
  have d5 : decide ((vs.length : Int) = (cl.length : Int)) = true := decide_eq_true a5
  have g5 := finiteS vs h3
  cases hf : vs.all sfin with
  | false =>
    rw [hf] at g5
    refine ⟨false, ?_, fun h => (by cases h), fun h => absurd h.fin (by rw [hf]; simp)⟩
    simp only [spec_l05Is_g, spec_l05Is_T, Tree.run, spec_l00In_v, d1, d2, en, d3, d4, d5, g5, Option.bind_some, Bool.not_true, Bool.not_false, Bool.false_eq_true, if_false, if_true]
  | true =>
  rw [hf] at g5
  by_cases a6 : nth st (Int.toNat 0) = 0
  case neg =>
    have d6 : decide (nth st (Int.toNat 0) = 0) = false := decide_eq_false a6
    refine ⟨false, ?_, fun h => (by cases h), fun h => absurd h.first a6⟩
    simp only [spec_l05Is_g, spec_l05Is_T, Tree.run, spec_l00In_v, d1, d2, en, d3, d4, d5, g5, c0, d6, Option.bind_some, Bool.not_true, Bool.not_false, Bool.false_eq_true, if_false, if_true]
  by_cases a7 : nth st (Int.toNat n) = cl.length
  case neg =>
    have d6 : decide (nth st (Int.toNat 0) = 0) = true := decide_eq_true a6
    have d7 : decide (nth st (Int.toNat n) = cl.length) = false := decide_eq_false a7
    refine ⟨false, ?_, fun h => (by cases h), fun h => absurd h.last a7⟩
    simp only [spec_l05Is_g, spec_l05Is_T, Tree.run, spec_l00In_v, d1, d2, en, d3, d4, d5, g5, c0, d6, cn, d7, Option.bind_some, Bool.not_true, Bool.not_false, Bool.false_eq_true, if_false, if_true]
  have d6 : decide (nth st (Int.toNat 0) = 0) = true := decide_eq_true a6
  have d7 : decide (nth st (Int.toNat n) = cl.length) = true := decide_eq_true a7
  have main := scanI (T := fun s => (spec_l05Is_l0_T n st cl vs s).run) (x := Sum.inl ()) (y := Sum.inr ()) (a := 0) (b := n)
    (fun i => ¬ (nth st (Int.toNat i) ≤ nth st (Int.toNat (i + 1)) ∧ nth st (Int.toNat (i + 1)) ≤ cl.length ∧ ∀ k : Int, nth st (Int.toNat i) ≤ k → k < nth st (Int.toNat (i + 1)) →
      (0 ≤ nth cl (Int.toNat k) ∧ nth cl (Int.toNat k) ≤ n - 1) ∧ (nth st (Int.toNat i) < k → nth cl (Int.toNat (k - 1)) < nth cl (Int.toNat k)))) (by
    intro i q1 q2 before
    have p1 : 0 ≤ nth st (Int.toNat i) := by
      have a := mono_le' (f := fun i => nth st (Int.toNat i)) (i := 0) (j := i) (Int.le_refl _) q1 fun k q1 q2 => (Classical.not_not.1 (before k q1 q2)).1
      simp only [a6] at a
      exact a
    have e1 : IntKind.i64.wrap (i + (1 : Int)) = i + 1 := w64 (by omega) (by omega)
    have k1 : inb i st.length = true := inb_iff.2 ⟨by omega, by omega⟩
    have k2 : inb (i + 1) st.length = true := inb_iff.2 ⟨by omega, by omega⟩
    have k0 : decide (i < n) = true := decide_eq_true q2
    by_cases u1 : nth st (Int.toNat (i + 1)) < nth st (Int.toNat i)
    · exact .inl ⟨fun h => by omega, by simp only [spec_l05Is_l0_T, Tree.run, k0, k1, e1, k2, decide_eq_true u1, if_true]⟩
    by_cases u2 : (cl.length : Int) < nth st (Int.toNat (i + 1))
    · exact .inl ⟨fun h => by omega, by simp only [spec_l05Is_l0_T, Tree.run, k0, k1, e1, k2, decide_eq_false u1, decide_eq_true u2, Bool.false_eq_true, if_false, if_true]⟩
    have w1 : decide (nth st (Int.toNat (i + 1)) < nth st (Int.toNat i)) = false := decide_eq_false u1
    have w2 : decide ((cl.length : Int) < nth st (Int.toNat (i + 1))) = false := decide_eq_false u2
    have inner := scanI (T := fun s => (spec_l05Is_l2_T n st cl i s).run) (x := Sum.inl ()) (y := Sum.inr ()) (a := nth st (Int.toNat i)) (b := nth st (Int.toNat (i + 1)))
      (fun k => ¬ ((0 ≤ nth cl (Int.toNat k) ∧ nth cl (Int.toNat k) ≤ n - 1) ∧ (nth st (Int.toNat i) < k → nth cl (Int.toNat (k - 1)) < nth cl (Int.toNat k)))) (by
      intro k r1 r2 _
      have f0 : decide (k < nth st (Int.toNat (i + 1))) = true := decide_eq_true r2
      have f2 : inb k cl.length = true := inb_iff.2 ⟨by omega, by omega⟩
      have f4 : IntKind.i64.wrap (k + (1 : Int)) = k + 1 := w64 (by omega) (by omega)
      have f5 : (spec_l00In_v (nth cl (Int.toNat k)) 0 (n - 1)) = (decide (0 ≤ nth cl (Int.toNat k)) && decide (nth cl (Int.toNat k) ≤ n - 1)) := by
        unfold spec_l00In_v
        cases decide (0 ≤ nth cl (Int.toNat k)) <;> simp
      by_cases v1 : 0 ≤ nth cl (Int.toNat k) ∧ nth cl (Int.toNat k) ≤ n - 1
      case neg =>
        refine .inl ⟨fun h => v1 h.1, ?_⟩
        have : (spec_l00In_v (nth cl (Int.toNat k)) 0 (n - 1)) = false := by
          rw [f5]
          simp only [Bool.and_eq_false_iff, decide_eq_false_iff_not]
          omega
        simp only [spec_l05Is_l2_T, Tree.run, e1, en1, k2, f0, f2, this, Bool.not_false, if_true]
      have f6 : (spec_l00In_v (nth cl (Int.toNat k)) 0 (n - 1)) = true := by rw [f5]; simp [v1.1, v1.2]
      by_cases v2 : nth st (Int.toNat i) < k
      case neg =>
        exact .inr ⟨fun h => h ⟨v1, fun h2 => absurd h2 v2⟩, by simp only [spec_l05Is_l2_T, Tree.run, e1, en1, k1, k2, f0, f2, f4, f6, decide_eq_false v2, Bool.not_true, Bool.false_eq_true, if_false, if_true]⟩
      have f1 : inb (k - 1) cl.length = true := inb_iff.2 ⟨by omega, by omega⟩
      have f3 : IntKind.i64.wrap (k - (1 : Int)) = k - 1 := w64 (by omega) (by omega)
      by_cases v3 : nth cl (Int.toNat k) ≤ nth cl (Int.toNat (k - 1))
      · exact .inl ⟨fun h => by have := h.2 v2; omega, by simp only [spec_l05Is_l2_T, Tree.run, e1, en1, k1, k2, f0, f1, f2, f3, f4, f6, decide_eq_true v2, decide_eq_true v3, Bool.not_true, Bool.false_eq_true, if_false, if_true]⟩
      · exact .inr ⟨fun h => h ⟨v1, fun _ => by omega⟩, by simp only [spec_l05Is_l2_T, Tree.run, e1, en1, k1, k2, f0, f1, f2, f3, f4, f6, decide_eq_true v2, decide_eq_false v3, Bool.not_true, Bool.false_eq_true, if_false, if_true]⟩) (by
      intro k r1 r2 _
      have f0 : decide (k < nth st (Int.toNat (i + 1))) = false := decide_eq_false (by omega)
      simp only [spec_l05Is_l2_T, Tree.run, e1, k2, f0, if_true, Bool.false_eq_true, if_false])
    rcases inner with ⟨⟨k, m1, m2, m3⟩, g⟩ | ⟨m1, g⟩
    · exact .inl ⟨fun h => m3 (h.2.2 k m1 m2), by simp only [spec_l05Is_l0_T, Tree.run, k0, k1, e1, k2, w1, w2, spec_l05Is_l2_g, g, Option.bind_some, Bool.false_eq_true, if_false, if_true]⟩
    · exact .inr ⟨fun h => h ⟨by omega, by omega, fun k r1 r2 => Classical.not_not.1 (m1 k r1 r2)⟩, by simp only [spec_l05Is_l0_T, Tree.run, k0, k1, e1, k2, w1, w2, spec_l05Is_l2_g, g, Option.bind_some, Bool.false_eq_true, if_false, if_true]⟩) (by
    intro i q1 q2 _
    have k0 : decide (i < n) = false := decide_eq_false (by omega)
    simp only [spec_l05Is_l0_T, Tree.run, k0, Bool.false_eq_true, if_false])
  rcases main with ⟨⟨i, i1, i2, m3⟩, g⟩ | ⟨m1, g⟩
  · refine ⟨false, ?_, fun h => (by cases h), fun h => ?_⟩
    · simp only [spec_l05Is_g, spec_l05Is_T, Tree.run, spec_l00In_v, d1, d2, en, d3, d4, d5, g5, c0, d6, cn, d7, spec_l05Is_l0_g, g, Option.bind_some, Bool.not_true, Bool.not_false, Bool.false_eq_true, if_false, if_true]
    · refine (m3 ⟨h.mono i i1 i2, (h.pos (by omega) (by omega)).2, fun k r1 r2 => ⟨?_, fun r3 => h.up i i1 i2 k r3 r2⟩⟩).elim
      have q1 := (h.pos i1 (by omega)).1
      have q2 := (h.pos (i := i + 1) (by omega) (by omega)).2
      exact h.inr k (by omega) (by omega)
  · have m1 := fun i i1 i2 => Classical.not_not.1 (m1 i i1 i2)
    refine ⟨true, ?_, fun _ => ⟨a1, a2, a3, by omega, by omega, a6, a7, fun i i1 i2 => (m1 i i1 i2).1, fun k r1 r2 => ?_, fun i i1 i2 k q1 q2 => ((m1 i i1 i2).2.2 k (by omega) q2).2 q1, hf⟩, fun _ => rfl⟩
    · simp only [spec_l05Is_g, spec_l05Is_T, Tree.run, spec_l00In_v, d1, d2, en, d3, d4, d5, g5, c0, d6, cn, d7, spec_l05Is_l0_g, g, Option.bind_some, Bool.not_true, Bool.not_false, Bool.false_eq_true, if_false, if_true]
    · -- the row that k stands in
      have find : ∀ (d : Nat), (d : Int) ≤ n → k < nth st (Int.toNat d) → ∃ i : Int, 0 ≤ i ∧ i < n ∧ nth st (Int.toNat i) ≤ k ∧ k < nth st (Int.toNat (i + 1)) := by
        intro d
        induction d with
        | zero =>
          intro _ h
          have e : Int.toNat ((0 : Nat) : Int) = Int.toNat 0 := rfl
          rw [e, a6] at h
          omega
        | succ d ih =>
          intro h h2
          rcases Int.lt_or_le k (nth st (Int.toNat d)) with h3 | h3
          · exact ih (by omega) h3
          · exact ⟨d, by omega, by omega, h3, by rwa [show ((d : Int) + 1) = ((d + 1 : Nat) : Int) by omega]⟩
      obtain ⟨i, i1, i2, i3, i4⟩ := find n.toNat (by omega) (by rw [show ((n.toNat : Nat) : Int) = n by omega, a7]; exact r2)
      exact ((m1 i i1 i2).2.2 k i3 i4).1

/-! a square times a vector -/
/-- A sum over a row. -/
noncomputable def spRow (cl : List Int) (vs v : List Nat) (k : Int) (s : Nat) : Nat := fadd .f32 s (fmul .f32 (nth vs (Int.toNat k)) (nth v (Int.toNat (nth cl (Int.toNat k)))))
noncomputable def spTimes (n : Nat) (st cl : List Int) (vs v : List Nat) : List Nat := (List.range n).map fun (i : Nat) => overI (spRow cl vs v) (nth st i) (nth st (i + 1) - nth st i).toNat 0
/-- A square that is valid, with a vector of its side. -/
theorem spFitS (n : Int) (st cl : List Int) (vs v : List Nat) (h1 : st.length ≤ maxN) (h2 : cl.length ≤ maxN) (h3 : vs.length ≤ maxN) (h4 : v.length ≤ maxN) : ∃ b, spec_l05Fits_g n st cl vs v = some b ∧ (b = true ↔ SpOk n st cl vs ∧ (v.length : Int) = n ∧ v.all sfin = true) := by
  obtain ⟨b, g1, g2⟩ := spS n st cl vs h1 h2 h3
  cases b with
  | false => exact ⟨false, by simp only [spec_l05Fits_g, spec_l05Fits_T, Tree.run, g1, Option.bind_some, Bool.false_eq_true, if_false], fun h => (by cases h), fun h => g2.2 h.1⟩
  | true =>
    by_cases hl : (v.length : Int) = n
    · refine ⟨v.all sfin, by simp only [spec_l05Fits_g, spec_l05Fits_T, Tree.run, g1, finiteS v h4, decide_eq_true hl, Option.bind_some, if_true], fun h => ⟨g2.1 rfl, hl, h⟩, fun h => h.2.2⟩
    · refine ⟨false, by simp only [spec_l05Fits_g, spec_l05Fits_T, Tree.run, g1, decide_eq_false hl, Option.bind_some, Bool.false_eq_true, if_false, if_true], fun h => (by cases h), fun h => absurd h.2.1 hl⟩
theorem spFitI (n : Int) (st cl : List Int) (vs v : List Nat) (h1 : st.length ≤ maxN) (h2 : cl.length ≤ maxN) (h3 : vs.length ≤ maxN) (h4 : v.length ≤ maxN) : ∃ b, impl_Sparse_takes_g n st cl vs v = some b ∧ (b = true ↔ SpOk n st cl vs ∧ (v.length : Int) = n ∧ v.all sfin = true) := by
  obtain ⟨b, g1, g2⟩ := spI n st cl vs h1 h2 h3
  cases b with
  | false => exact ⟨false, by simp only [impl_Sparse_takes_g, impl_Sparse_takes_T, Tree.run, g1, Option.bind_some, Bool.false_eq_true, if_false], fun h => (by cases h), fun h => g2.2 h.1⟩
  | true =>
    have hs := g2.1 rfl
    have n1 := hs.n1
    have n2 := hs.n2
    have hv : impl_IsVector_g v = some (decide (1 ≤ (v.length : Int)) && decide ((v.length : Int) ≤ 256) && v.all sfin) := by
      simp only [impl_IsVector_g, impl_IsVector_T, Tree.run, inR, impl_lengthF_v, areFin v h4, Option.bind_some]
      cases (decide (1 ≤ (v.length : Int)) && decide ((v.length : Int) ≤ 256)) <;> simp
    by_cases hl : (v.length : Int) = n
    · have e1 : decide (1 ≤ (v.length : Int)) = true := decide_eq_true (by omega)
      have e2 : decide ((v.length : Int) ≤ 256) = true := decide_eq_true (by omega)
      rw [e1, e2] at hv
      simp only [Bool.and_self, Bool.true_and] at hv
      refine ⟨v.all sfin, ?_, fun h => ⟨hs, hl, h⟩, fun h => h.2.2⟩
      simp only [impl_Sparse_takes_g, impl_Sparse_takes_T, Tree.run, g1, hv, decide_eq_true (show impl_lengthF_v v = n from hl), Option.bind_some, if_true]
      cases v.all sfin <;> simp
    · refine ⟨false, ?_, fun h => (by cases h), fun h => absurd h.2.1 hl⟩
      simp only [impl_Sparse_takes_g, impl_Sparse_takes_T, Tree.run, g1, hv, decide_eq_false (show ¬ impl_lengthF_v v = n from hl), Option.bind_some, if_true]
      cases (decide (1 ≤ (v.length : Int)) && decide ((v.length : Int) ≤ 256) && v.all sfin) <;> simp
theorem spTimes_length (n : Nat) (st cl : List Int) (vs v : List Nat) : (spTimes n st cl vs v).length = n := by simp [spTimes]
end Go.Proofs.Ytjadfgeemfdbmaa.AM
