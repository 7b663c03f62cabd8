/- MirrorRank: the loops of both sides. -/
import Derived.Test.YtimlecagkbbnpaaMR0
set_option linter.unusedSimpArgs false
set_option linter.unusedVariables false
set_option maxHeartbeats 1000000
namespace Go.Proofs.Ytimlecagkbbnpaa.AM

theorem wi_inl {σ ρ : Type} {T : σ → Option (σ ⊕ ρ)} {s s' : σ} {r : Option ρ} (h : T s = some (.inl s')) (h' : whileM T s' = r) : whileM T s = r := by rw [whileM_eq, h]; exact h'
theorem wi_inr {σ ρ : Type} {T : σ → Option (σ ⊕ ρ)} {s : σ} {r : ρ} (h : T s = some (.inr r)) : whileM T s = some r := by rw [whileM_eq, h]
/-- Two loops that count and do the same. -/
theorem for2m {σ ρ : Type} {T1 T2 : Int × σ → Option ((Int × σ) ⊕ ρ)} (I : Nat → σ → Prop) {n : Nat} (fin : σ → ρ)
    (step : ∀ (i : Nat) (s : σ), i < n → I i s → ∃ s', T1 ((i : Int), s) = some (.inl (((i + 1 : Nat) : Int), s')) ∧ T2 ((i : Int), s) = some (.inl (((i + 1 : Nat) : Int), s')) ∧ I (i + 1) s')
    (stop : ∀ s, I n s → T1 ((n : Int), s) = some (.inr (fin s)) ∧ T2 ((n : Int), s) = some (.inr (fin s))) :
    ∀ (d i : Nat) (s : σ), i + d = n → I i s → ∃ s', whileM T1 ((i : Int), s) = some (fin s') ∧ whileM T2 ((i : Int), s) = some (fin s') ∧ I n s'
  | 0, i, s, h, hI => by
    have : i = n := by omega
    subst this
    obtain ⟨h1, h2⟩ := stop s hI
    exact ⟨s, wi_inr h1, wi_inr h2, hI⟩
  | d + 1, i, s, h, hI => by
    obtain ⟨s', h1, h2, h3⟩ := step i s (by omega) hI
    obtain ⟨s'', k1, k2, k3⟩ := for2m I fin step stop d (i + 1) s' (by omega) h3
    exact ⟨s'', wi_inl h1 k1, wi_inl h2 k2, k3⟩
/-- m columns of n numbers, and which one lies where. -/
structure Cs (m n : Nat) (P : List (List Nat)) (X : List Nat) : Prop where
  pl : P.length = m
  xl : X.length = m
  xb : ∀ i, i < m → 1 ≤ nth X i ∧ nth X i ≤ m
  rl : ∀ k, 1 ≤ k → k ≤ m → (nget P k).length = n
theorem ngetm_set {xs : List (List Nat)} {k q : Nat} {r : List Nat} (h1 : 1 ≤ k) (h2 : k ≤ xs.length) : nget (xs.set (k - 1) r) q = if q = k then r else nget xs q := by
  obtain ⟨k, rfl⟩ : ∃ j, k = j + 1 := ⟨k - 1, by omega⟩
  rw [Nat.add_sub_cancel]
  cases q with
  | zero => simp [nget]
  | succ q =>
    simp only [nget]
    by_cases h : q = k
    · subst h; rw [if_pos rfl, nth_set_eq _ _ _ (by omega)]
    · rw [if_neg (by omega), nth_set_ne _ _ _ _ (fun e => h e.symm)]
theorem Cs.put {m n k j v : Nat} {P : List (List Nat)} {X : List Nat} (h : Cs m n P X) (h1 : 1 ≤ k) (h2 : k ≤ m) : Cs m n (P.set (k - 1) ((nget P k).set j v)) X := by
  refine ⟨by simpa using h.pl, h.xl, h.xb, fun q q1 q2 => ?_⟩
  rw [ngetm_set h1 (by rw [h.pl]; exact h2)]
  split
  · rw [List.length_set]; exact h.rl k h1 h2
  · exact h.rl q q1 q2
theorem mr_cols {n m : Nat} {M : List Nat} (hn : n ≤ 12) (hm : m ≤ 12) (hM : M.length = n * m) (A : List Int) :
    ∃ P X, impl_MirrorRank_l0_g n m M A ((0 : Int), ([] : List (List Nat)), ([] : List Nat)) = some (P, X) ∧ spec_MirrorRank_l0_g n m M ((0 : Int), ([] : List (List Nat)), ([] : List Nat)) = some (P, X) ∧ Cs m n P X := by
  obtain ⟨s', h1, h2, h3⟩ := for2m (T1 := fun s => (impl_MirrorRank_l0_T n m M A s).run) (T2 := fun s => (spec_MirrorRank_l0_T n m M s).run) (I := fun i (s : List (List Nat) × List Nat) => s = ((List.range i).map (colL n m M), List.range' 1 i)) (n := m) (fin := fun s => (s.1, s.2)) (by
      intro i s hi hs
      subst hs
      have c1 := colI hi hn hm hM
      have c2 := col3S hi hn hm hM
      have q1 : decide ((i : Int) < (m : Int)) = true := decide_eq_true (by omega)
      have q2 : fits (i + 1) = true := fitsN (by omega)
      have q3 := w1 (show i ≤ 1000 by omega)
      have e : ((List.range i).map (colL n m M) ++ [colL n m M i], List.range' 1 i ++ [i + 1]) = ((List.range (i + 1)).map (colL n m M), List.range' 1 (i + 1)) := by
        rw [List.range_succ, List.map_append, List.map_singleton, List.range'_1_concat, Nat.add_comm 1 i]
      refine ⟨_, ?_, ?_, e⟩
      · simp only [impl_MirrorRank_l0_T, Tree.run, q1, c1, List.length_range', List.length_map, List.length_range, q2, q3, Option.bind_some, if_true]
      · simp only [spec_MirrorRank_l0_T, Tree.run, q1, c2, List.length_range', List.length_map, List.length_range, q2, q3, Option.bind_some, if_true]) (by
      intro s _
      have q1 : decide ((m : Int) < (m : Int)) = false := decide_eq_false (by omega)
      exact ⟨by simp only [impl_MirrorRank_l0_T, Tree.run, q1, Bool.false_eq_true, if_false], by simp only [spec_MirrorRank_l0_T, Tree.run, q1, Bool.false_eq_true, if_false]⟩) m 0 ([], []) (Nat.zero_add _) rfl
  subst h3
  refine ⟨_, _, h1, h2, by simp, by simp, fun i hi => ?_, fun k k1 k2 => ?_⟩
  · rw [nth_of _ _ (by simpa using hi)]
    simp only [List.getElem_range']
    omega
  · obtain ⟨k, rfl⟩ : ∃ j, k = j + 1 := ⟨k - 1, by omega⟩
    simp only [nget]
    rw [nth_of _ _ (by simp; omega)]
    simp
theorem mr_asc {m : Nat} (hm : m ≤ 12) : ∃ L : List Int, impl_ascending_g m = some L ∧ spec_l03Count_g m = some L ∧ L.length = m := by
  obtain ⟨s', h1, h2, h3⟩ := for2m (T1 := fun s => (impl_ascending_l0_T m s).run) (T2 := fun s => (spec_l03Count_l0_T m s).run) (I := fun i (s : List Int) => s.length = i) (n := m) (fin := fun s => s) (by
      intro i s hi hs
      have q1 : decide ((i : Int) < (m : Int)) = true := decide_eq_true (by omega)
      have q2 : fits (s ++ [(i : Int)]).length = true := fitsN (by simp; omega)
      have q3 := w1 (show i ≤ 1000 by omega)
      refine ⟨s ++ [(i : Int)], ?_, ?_, by simp [hs]⟩
      · simp only [impl_ascending_l0_T, Tree.run, q1, q2, q3, if_true]
      · simp only [spec_l03Count_l0_T, Tree.run, q1, q2, q3, if_true]) (by
      intro s _
      have q1 : decide ((m : Int) < (m : Int)) = false := decide_eq_false (by omega)
      exact ⟨by simp only [impl_ascending_l0_T, Tree.run, q1, Bool.false_eq_true, if_false], by simp only [spec_l03Count_l0_T, Tree.run, q1, Bool.false_eq_true, if_false]⟩) m 0 [] (Nat.zero_add _) rfl
  have h1' : impl_ascending_l0_g m ((0 : Int), ([] : List Int)) = some s' := h1
  have h2' : spec_l03Count_l0_g m ((0 : Int), ([] : List Int)) = some s' := h2
  exact ⟨s', by simp only [impl_ascending_g, impl_ascending_T, Tree.run, h1', Option.bind_some, if_true], by simp only [spec_l03Count_g, spec_l03Count_T, Tree.run, h2', Option.bind_some, if_true], h3⟩
/-- A sum of squares. -/
noncomputable def sqs (P : List (List Nat)) (k : Nat) : Nat := dotN (fun i => fmul .f32 (nth (nget P k) i) (nth (nget P k) i)) (nget P k).length
theorem sqsI {m n q : Nat} {P : List (List Nat)} {X : List Nat} (h : Cs m n P X) (hn : n ≤ 12) (q1 : 1 ≤ q) (q2 : q ≤ m) : impl_dot_g (nget P q) (nget P q) = some (sqs P q) ∧ spec_l02Dot_g (nget P q) (nget P q) = some (sqs P q) := by
  have hl := h.rl q q1 q2
  have hx : (nget P q).length ≤ maxN := by unfold maxN; omega
  exact ⟨dotI _ _ (Nat.le_refl _) hx, dotS _ _ (Nat.le_refl _) hx⟩
theorem mr4 {m n p : Nat} {P : List (List Nat)} {X : List Nat} (h : Cs m n P X) (hm : m ≤ 12) (hn : n ≤ 12) (dn : Int) (O : List Int) :
    ∀ (d k best : Nat), k + d = m → p < k → p ≤ best → best < m →
      ∃ r, impl_MirrorRank_l4_g m dn p P X O ((best : Int), sqs P (nth X best), (k : Int)) = some r ∧ spec_MirrorRank_l4_g dn p P X O ((best : Int), sqs P (nth X best), (k : Int)) = some r ∧ (r = .inl () ∨ ∃ b : Nat, p ≤ b ∧ b < m ∧ r = .inr ((b : Int), sqs P (nth X b))) := by
  intro d
  induction d with
  | zero =>
    intro k best hk hp h1 h2
    have e : k = m := by omega
    subst e
    have q1 : decide ((k : Int) < (k : Int)) = false := decide_eq_false (by omega)
    exact ⟨_, wi_inr (T := fun s => (impl_MirrorRank_l4_T k dn p P X O s).run) (by simp only [impl_MirrorRank_l4_T, Tree.run, q1, Bool.false_eq_true, if_false]), wi_inr (T := fun s => (spec_MirrorRank_l4_T dn p P X O s).run) (by simp only [spec_MirrorRank_l4_T, Tree.run, h.xl, q1, Bool.false_eq_true, if_false]), .inr ⟨best, h1, h2, rfl⟩⟩
  | succ d ih =>
    intro k best hk hp h1 h2
    have q1 : decide ((k : Int) < (m : Int)) = true := decide_eq_true (by omega)
    have q2 : inb (k : Int) m = true := inb_iff.2 ⟨by omega, by omega⟩
    have q3 := w1 (show k ≤ 1000 by omega)
    have q4 : decide ((k : Int) = (p : Int)) = false := decide_eq_false (by omega)
    obtain ⟨b1, b2⟩ := h.xb k (by omega)
    obtain ⟨e1, e2⟩ := sqsI h hn b1 b2
    have fI := finI (sqs P (nth X k))
    have fS := finS (sqs P (nth X k))
    cases hf : sfin (sqs P (nth X k)) with
    | false =>
      rw [hf] at fI fS
      exact ⟨.inl (), wi_inr (T := fun s => (impl_MirrorRank_l4_T m dn p P X O s).run) (by simp only [impl_MirrorRank_l4_T, Tree.run, h.xl, q1, q2, Int.toNat_natCast, e1, fI, Option.bind_some, Bool.not_false, if_true]), wi_inr (T := fun s => (spec_MirrorRank_l4_T dn p P X O s).run) (by simp only [spec_MirrorRank_l4_T, Tree.run, h.xl, q1, q2, Int.toNat_natCast, e2, fS, Option.bind_some, Bool.not_false, if_true]), .inl rfl⟩
    | true =>
      rw [hf] at fI fS
      cases hg : fgrt .f32 (sqs P (nth X k)) (sqs P (nth X best)) with
      | true =>
        obtain ⟨r, g1, g2, g3⟩ := ih (k + 1) k (by omega) (by omega) (by omega) (by omega)
        exact ⟨r, wi_inl (T := fun s => (impl_MirrorRank_l4_T m dn p P X O s).run) (by simp only [impl_MirrorRank_l4_T, Tree.run, h.xl, q1, q2, q3, Int.toNat_natCast, e1, fI, hg, Option.bind_some, Bool.not_true, Bool.false_eq_true, if_false, if_true]) g1, wi_inl (T := fun s => (spec_MirrorRank_l4_T dn p P X O s).run) (by simp only [spec_MirrorRank_l4_T, Tree.run, h.xl, q1, q2, q3, q4, Int.toNat_natCast, e2, fS, hg, Option.bind_some, Bool.not_true, Bool.false_eq_true, if_false, if_true]) g2, g3⟩
      | false =>
        obtain ⟨r, g1, g2, g3⟩ := ih (k + 1) best (by omega) (by omega) h1 h2
        exact ⟨r, wi_inl (T := fun s => (impl_MirrorRank_l4_T m dn p P X O s).run) (by simp only [impl_MirrorRank_l4_T, Tree.run, h.xl, q1, q2, q3, Int.toNat_natCast, e1, fI, hg, Option.bind_some, Bool.not_true, Bool.false_eq_true, if_false, if_true]) g1, wi_inl (T := fun s => (spec_MirrorRank_l4_T dn p P X O s).run) (by simp only [spec_MirrorRank_l4_T, Tree.run, h.xl, q1, q2, q3, q4, Int.toNat_natCast, e2, fS, hg, Option.bind_some, Bool.not_true, Bool.false_eq_true, if_false, if_true]) g2, g3⟩
theorem mr4' {m n p : Nat} {P : List (List Nat)} {X : List Nat} (h : Cs m n P X) (hm : m ≤ 12) (hn : n ≤ 12) (hp : p < m) (dn : Int) (O : List Int) :
      ∃ r, impl_MirrorRank_l4_g m dn p P X O ((p : Int), (3212836864 : Nat), (p : Int)) = some r ∧ spec_MirrorRank_l4_g dn p P X O ((p : Int), (0 : Nat), (p : Int)) = some r ∧ (r = .inl () ∨ ∃ b : Nat, p ≤ b ∧ b < m ∧ r = .inr ((b : Int), sqs P (nth X b))) := by
  have q1 : decide ((p : Int) < (m : Int)) = true := decide_eq_true (by omega)
  have q2 : inb (p : Int) m = true := inb_iff.2 ⟨by omega, by omega⟩
  have q3 := w1 (show p ≤ 1000 by omega)
  have q4 : decide ((p : Int) = (p : Int)) = true := decide_eq_true rfl
  obtain ⟨b1, b2⟩ := h.xb p hp
  obtain ⟨e1, e2⟩ := sqsI h hn b1 b2
  have fI := finI (sqs P (nth X p))
  have fS := finS (sqs P (nth X p))
  cases hf : sfin (sqs P (nth X p)) with
  | false =>
    rw [hf] at fI fS
    exact ⟨.inl (), wi_inr (T := fun s => (impl_MirrorRank_l4_T m dn p P X O s).run) (by simp only [impl_MirrorRank_l4_T, Tree.run, h.xl, q1, q2, Int.toNat_natCast, e1, fI, Option.bind_some, Bool.not_false, if_true]), wi_inr (T := fun s => (spec_MirrorRank_l4_T dn p P X O s).run) (by simp only [spec_MirrorRank_l4_T, Tree.run, h.xl, q1, q2, Int.toNat_natCast, e2, fS, Option.bind_some, Bool.not_false, if_true]), .inl rfl⟩
  | true =>
    rw [hf] at fI fS
    have hg := gt_m1 (dot_nn (fun i => nth (nget P (nth X p)) i) _ hf)
    have hg' : fgrt .f32 (sqs P (nth X p)) 3212836864 = true := hg
    obtain ⟨r, g1, g2, g3⟩ := mr4 h hm hn dn O (m - (p + 1)) (p + 1) p (by omega) (by omega) (Nat.le_refl _) hp
    exact ⟨r, wi_inl (T := fun s => (impl_MirrorRank_l4_T m dn p P X O s).run) (by simp only [impl_MirrorRank_l4_T, Tree.run, h.xl, q1, q2, q3, Int.toNat_natCast, e1, fI, hg', Option.bind_some, Bool.not_true, Bool.false_eq_true, if_false, if_true]) g1, wi_inl (T := fun s => (spec_MirrorRank_l4_T dn p P X O s).run) (by simp only [spec_MirrorRank_l4_T, Tree.run, h.xl, q1, q2, q3, decide_true, Int.toNat_natCast, e2, fS, Option.bind_some, Bool.not_true, Bool.false_eq_true, if_false, if_true]) g2, g3⟩
theorem mr6 {m n p : Nat} {P : List (List Nat)} {X : List Nat} (h : Cs m n P X) (hm : m ≤ 12) (hn : n ≤ 12) (hp : p < m) (dn : Int) (O : List Int) (rt : Nat) :
    ∃ P', impl_MirrorRank_l6_g dn p rt (n : Int) X O ((0 : Int), P) = some P' ∧ spec_MirrorRank_l6_g dn p rt (nth X p) (n : Int) X O ((0 : Int), P) = some P' ∧ Cs m n P' X := by
  obtain ⟨b1, b2⟩ := h.xb p hp
  obtain ⟨s', h1, h2, h3⟩ := for2m (T1 := fun s => (impl_MirrorRank_l6_T dn p rt (n : Int) X O s).run) (T2 := fun s => (spec_MirrorRank_l6_T dn p rt (nth X p) (n : Int) X O s).run) (I := fun i (s : List (List Nat)) => Cs m n s X) (n := n) (fin := fun s => s) (by
      intro i s hi hs
      have q1 : decide ((i : Int) < (n : Int)) = true := decide_eq_true (by omega)
      have q2 : inb (p : Int) m = true := inb_iff.2 ⟨by omega, by omega⟩
      have q3 := w1 (show i ≤ 1000 by omega)
      have q4 : inb (i : Int) n = true := inb_iff.2 ⟨by omega, by omega⟩
      have q5 := hs.rl _ b1 b2
      refine ⟨_, ?_, ?_, hs.put (j := i) (v := fdiv .f32 (nth (nget s (nth X p)) i) rt) b1 b2⟩
      · simp only [impl_MirrorRank_l6_T, Tree.run, h.xl, q1, q2, q3, q4, q5, Int.toNat_natCast, if_true]
      · simp only [spec_MirrorRank_l6_T, Tree.run, q1, q3, q4, q5, Int.toNat_natCast, if_true]) (by
      intro s _
      have q1 : decide ((n : Int) < (n : Int)) = false := decide_eq_false (by omega)
      exact ⟨by simp only [impl_MirrorRank_l6_T, Tree.run, q1, Bool.false_eq_true, if_false], by simp only [spec_MirrorRank_l6_T, Tree.run, q1, Bool.false_eq_true, if_false]⟩) n 0 P (Nat.zero_add _) h
  exact ⟨s', h1, h2, h3⟩
theorem mr10 {m n p c : Nat} {P : List (List Nat)} {X : List Nat} (h : Cs m n P X) (hm : m ≤ 12) (hn : n ≤ 12) (hp : p < m) (hc : c < m) (dn p' : Int) (O : List Int) (q : Nat) :
    ∃ P', impl_less_nst_g P X (nth X c) q (nth X p) = some P' ∧ spec_MirrorRank_l10_g dn p' (nth X p) c q (n : Int) X O ((0 : Int), P) = some P' ∧ Cs m n P' X := by
  obtain ⟨b1, b2⟩ := h.xb p hp
  obtain ⟨c1, c2⟩ := h.xb c hc
  have hl := h.rl _ c1 c2
  obtain ⟨s', h1, h2, h3⟩ := for2m (T1 := fun s => (impl_less_nst_l0_T P (nth X c) q (nth X p) s).run) (T2 := fun s => (spec_MirrorRank_l10_T dn p' (nth X p) c q (n : Int) X O s).run) (I := fun i (s : List (List Nat)) => Cs m n s X) (n := n) (fin := fun s => s) (by
      intro i s hi hs
      have q1 : decide ((i : Int) < (n : Int)) = true := decide_eq_true (by omega)
      have q2 : inb (c : Int) m = true := inb_iff.2 ⟨by omega, by omega⟩
      have q3 := w1 (show i ≤ 1000 by omega)
      have q4 : inb (i : Int) n = true := inb_iff.2 ⟨by omega, by omega⟩
      have q5 := hs.rl _ b1 b2
      have q6 := hs.rl _ c1 c2
      refine ⟨_, ?_, ?_, hs.put (j := i) (v := fsub .f32 (nth (nget s (nth X c)) i) (fmul .f32 q (nth (nget s (nth X p)) i))) c1 c2⟩
      · simp only [impl_less_nst_l0_T, impl_mul_v, Tree.run, hl, q1, q3, q4, q5, q6, Int.toNat_natCast, if_true]
      · simp only [spec_MirrorRank_l10_T, Tree.run, h.xl, q1, q2, q3, q4, q5, q6, Int.toNat_natCast, if_true]) (by
      intro s _
      have q1 : decide ((n : Int) < (n : Int)) = false := decide_eq_false (by omega)
      exact ⟨by simp only [impl_less_nst_l0_T, Tree.run, hl, q1, Bool.false_eq_true, if_false], by simp only [spec_MirrorRank_l10_T, Tree.run, q1, Bool.false_eq_true, if_false]⟩) n 0 P (Nat.zero_add _) h
  have h1' : impl_less_nst_l0_g P (nth X c) q (nth X p) ((0 : Int), P) = some s' := h1
  exact ⟨s', by simp only [impl_less_nst_g, impl_less_nst_T, Tree.run, h1', Option.bind_some, if_true], h2, h3⟩
theorem mr8 {m n p : Nat} {P : List (List Nat)} {X : List Nat} (h : Cs m n P X) (hm : m ≤ 12) (hn : n ≤ 12) (hp : p < m) (R C : Int) (M : List Nat) (nr : Nat) (dn : Int) (O : List Int) :
    ∃ P', impl_MirrorRank_l8_g m dn p X O (((p + 1 : Nat) : Int), P) = some P' ∧ spec_MirrorRank_l8_g R C M nr dn p (nth X p) X O (((p + 1 : Nat) : Int), P) = some P' ∧ Cs m n P' X := by
  obtain ⟨b1, b2⟩ := h.xb p hp
  obtain ⟨s', h1, h2, h3⟩ := for2m (T1 := fun s => (impl_MirrorRank_l8_T m dn p X O s).run) (T2 := fun s => (spec_MirrorRank_l8_T R C M nr dn p (nth X p) X O s).run) (I := fun i (s : List (List Nat)) => Cs m n s X) (n := m) (fin := fun s => s) (by
      intro i s hi hs
      obtain ⟨c1, c2⟩ := hs.xb i hi
      have q1 : decide ((i : Int) < (m : Int)) = true := decide_eq_true (by omega)
      have q2 : inb (i : Int) m = true := inb_iff.2 ⟨by omega, by omega⟩
      have q3 := w1 (show i ≤ 1000 by omega)
      have q4 : inb (p : Int) m = true := inb_iff.2 ⟨by omega, by omega⟩
      have q5 := hs.rl _ b1 b2
      have q6 := hs.rl _ c1 c2
      have d1 := dotI (nget s (nth X p)) (nget s (nth X i)) (by omega) (by unfold maxN; omega)
      have d2 := dotS (nget s (nth X p)) (nget s (nth X i)) (by omega) (by unfold maxN; omega)
      obtain ⟨t, l1, l2, l3⟩ := mr10 hs hm hn hp hi dn p O (dotN (fun j => fmul .f32 (nth (nget s (nth X p)) j) (nth (nget s (nth X i)) j)) (nget s (nth X p)).length)
      rw [← q5] at l2
      refine ⟨t, ?_, ?_, l3⟩
      · simp only [impl_MirrorRank_l8_T, Tree.run, h.xl, q1, q2, q3, q4, Int.toNat_natCast, d1, l1, decide_true, Option.bind_some, if_true]
      · simp only [spec_MirrorRank_l8_T, Tree.run, h.xl, q1, q2, q3, Int.toNat_natCast, d2, l2, Option.bind_some, if_true]) (by
      intro s _
      have q1 : decide ((m : Int) < (m : Int)) = false := decide_eq_false (by omega)
      exact ⟨by simp only [impl_MirrorRank_l8_T, Tree.run, q1, Bool.false_eq_true, if_false], by simp only [spec_MirrorRank_l8_T, Tree.run, h.xl, q1, Bool.false_eq_true, if_false]⟩) (m - (p + 1)) (p + 1) P (by omega) h
  exact ⟨s', h1, h2, h3⟩
end Go.Proofs.Ytimlecagkbbnpaa.AM
