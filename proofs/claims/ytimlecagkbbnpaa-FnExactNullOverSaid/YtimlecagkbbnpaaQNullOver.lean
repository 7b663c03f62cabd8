/- The law NullOver: both sides, and the law. -/
import Derived.Test.YtimlecagkbbnpaaOVN
import Derived.Test.YtimlecagkbbnpaaNS0
set_option linter.unusedSimpArgs false
set_option linter.unusedVariables false
set_option maxHeartbeats 2000000
set_option maxRecDepth 100000
namespace Go.Proofs.Ytimlecagkbbnpaa.AM

theorem ints_len (pn : List Nat) : (ints pn).length = pn.length := by simp [ints]
theorem ints_nth {pn : List Nat} {i : Nat} (h : i < pn.length) : nth (ints pn) i = ((nth pn i : Nat) : Int) := by
  rw [nth_of _ _ (by rw [ints_len]; exact h), nth_of _ _ h]; simp [ints]
theorem nlRow {n c p j : Nat} {pool : List (List Int)} {ix pn : List Nat} (hn : n ≤ 6) (hc : c ≤ 6) (hj : j < c) (h2 : 2 ≤ p) (h9 : p ≤ 997) (hO : Ov n c p c pool ix pn) (at' : Int) (P : List (List Int)) (I : List Nat) (s0 : List Int) (hs : s0.length = c) :
    ∃ row, spec_NullOver_l2_g p at' j pool ix (ints pn) P I ((0 : Int), s0) = some row ∧ impl_NullOver_l2_g p j ((pn.length : Nat) : Int) pool ix (ints pn) P I ((0 : Int), s0) = some row ∧ row.length = c := by
  have hpl := hO.pl
  obtain ⟨s', k1, k2, k3⟩ := for2 (T1 := fun s => (spec_NullOver_l2_T p at' j pool ix (ints pn) P I s).run) (T2 := fun s => (impl_NullOver_l2_T p j ((pn.length : Nat) : Int) pool ix (ints pn) P I s).run) (n := pn.length) (fun _ s => s.length = c) id
    (fun i s hi h => by
      have hin : i < n := by omega
      obtain ⟨b1, b2⟩ := hO.sh.ib i hin
      have hrl := hO.sh.rl _ b1 b2
      have hq : nth pn i < c := hO.pb _ (by rw [nth_of _ _ hi]; exact List.getElem_mem hi)
      refine ⟨s.set (nth pn i) (IntKind.i64.wrap (0 - nth (nget pool (nth ix i)) j) % (p : Int)), ?_, ?_, by simpa using h⟩
      · simp only [spec_NullOver_l2_T, Tree.run, ints_len, lt_nat', hi, inb_nat, hO.sh.il, hin, hrl, hj, decide_true, if_true, Int.toNat_natCast, modS _ h2 h9, Option.bind_some, ints_nth hi, h, hq, w_succ (show i < 4611686018427387904 by omega)]
      · simp only [impl_NullOver_l2_T, Tree.run, ints_len, lt_nat', hi, inb_nat, hO.sh.il, hin, hrl, hj, decide_true, if_true, Int.toNat_natCast, restI _ h2 h9, Option.bind_some, ints_nth hi, h, hq, w_succ (show i < 4611686018427387904 by omega)])
    (fun s h => by
      constructor
      · simp only [spec_NullOver_l2_T, Tree.run, ints_len, lt_nat', Nat.lt_irrefl, decide_false, Bool.false_eq_true, if_false]
        rfl
      · simp only [impl_NullOver_l2_T, Tree.run, lt_nat', Nat.lt_irrefl, decide_false, Bool.false_eq_true, if_false]
        rfl) pn.length 0 s0 (Nat.zero_add _) hs
  exact ⟨s', k1, k2, k3⟩
theorem Rws.push {K : Nat} {P : List (List Int)} (h : Rws K P) {row : List Int} (hr : row.length ≤ 6) (hk : K < 6) : Rws (K + 1) (P ++ [row]) := by
  have hpl := h.pl
  refine ⟨by simp [hpl], by omega, fun j hj => ?_⟩
  simp only [nget]
  rw [nth_of _ _ (by simp; omega)]
  by_cases e : j < P.length
  · rw [List.getElem_append_left e, ← nth_of _ _ e]
    exact h.rl j (by omega)
  · have : j = P.length := by omega
    subst this
    simpa using hr
theorem nlLoop {n c p : Nat} {pool : List (List Int)} {ix pn : List Nat} (xs : List Int) (hn : n ≤ 6) (hc : c ≤ 6) (h2 : 2 ≤ p) (h9 : p ≤ 997) (hO : Ov n c p c pool ix pn) : ∀ (d j a K : Nat) (P : List (List Int)), j + d = c → Rws K P → K ≤ j → a ≤ pn.length → (∀ i, i < a → nth pn i < j) → (∀ i, a ≤ i → i < pn.length → j ≤ nth pn i) →
    ∃ K' P', spec_NullOver_l0_g n c xs p pool ix (ints pn) ((a : Int), (j : Int), P, ixO K) = some (P', ixO K') ∧ impl_NullOver_l0_g n c xs p pool ix (ints pn) ((j : Int), P, ixO K) = some (P', ixO K') ∧ Rws K' P'
  | 0, j, a, K, P, h, hR, hK, ha, q1, q2 => by
    have : j = c := by omega
    subst this
    refine ⟨K, P, wi_inr (T := fun s => (spec_NullOver_l0_T n j xs p pool ix (ints pn) s).run) ?_, wi_inr (T := fun s => (impl_NullOver_l0_T n j xs p pool ix (ints pn) s).run) ?_, hR⟩
    · simp only [spec_NullOver_l0_T, Tree.run, lt_nat', Nat.lt_irrefl, decide_false, Bool.false_eq_true, if_false]
    · simp only [impl_NullOver_l0_T, Tree.run, lt_nat', Nat.lt_irrefl, decide_false, Bool.false_eq_true, if_false]
  | d + 1, j, a, K, P, h, hR, hK, ha, q1, q2 => by
    have hj : j < c := by omega
    have hpl := hO.pl
    have hw := w_succ (show j < 4611686018427387904 by omega)
    have hwa := w_succ (show a < 4611686018427387904 by omega)
    have hcont := contI (ints pn) j (by rw [ints_len]; unfold maxN; omega)
    have hps := List.pairwise_iff_getElem.1 hO.ps
    have mono : ∀ i k, i < k → k < pn.length → nth pn i < nth pn k := fun i k h1 h2 => by
      rw [nth_of _ _ (by omega), nth_of _ _ h2]; exact hps i k (by omega) h2 h1
    have hany : ((ints pn).any fun y => decide ((j : Int) = y)) = true ↔ ∃ i, i < pn.length ∧ nth pn i = j := by
      rw [List.any_eq_true]
      constructor
      · rintro ⟨y, hy, hd⟩
        obtain ⟨i, hi, rfl⟩ := List.getElem_of_mem hy
        have hi' : i < pn.length := by rwa [ints_len] at hi
        have := of_decide_eq_true hd
        rw [← nth_of _ _ hi, ints_nth hi'] at this
        exact ⟨i, hi', by omega⟩
      · rintro ⟨i, hi, he⟩
        have hi' : i < (ints pn).length := by rw [ints_len]; exact hi
        refine ⟨_, List.getElem_mem hi', decide_eq_true ?_⟩
        rw [← nth_of _ _ hi', ints_nth hi, he]
    by_cases hh : a < pn.length ∧ nth pn a = j
    · obtain ⟨ha2, he⟩ := hh
      rw [hany.2 ⟨a, ha2, he⟩] at hcont
      obtain ⟨K', P', k1, k2, k3⟩ := nlLoop xs hn hc h2 h9 hO d (j + 1) (a + 1) K P (by omega) hR (by omega) (by omega)
        (fun i hi => by
          by_cases e : i = a
          · subst e; omega
          · have := q1 i (by omega); omega)
        (fun i hi hl => by have := mono a i (by omega) hl; omega)
      have hd : decide (((nth pn a : Nat) : Int) = (j : Int)) = true := decide_eq_true (by omega)
      refine ⟨K', P', wi_inl (T := fun s => (spec_NullOver_l0_T n c xs p pool ix (ints pn) s).run) ?_ k1, wi_inl (T := fun s => (impl_NullOver_l0_T n c xs p pool ix (ints pn) s).run) ?_ k2, k3⟩
      · simp only [spec_NullOver_l0_T, Tree.run, lt_nat', hj, ints_len, ha2, inb_nat, decide_true, if_true, Int.toNat_natCast, ints_nth ha2, hd, hw, hwa]
      · simp only [impl_NullOver_l0_T, Tree.run, lt_nat', hj, decide_true, if_true, hcont, Option.bind_some, hw]
    · have hno : ((ints pn).any fun y => decide ((j : Int) = y)) = false := by
        cases hb : ((ints pn).any fun y => decide ((j : Int) = y)) with
        | false => rfl
        | true =>
          obtain ⟨i, hi, he⟩ := hany.1 hb
          exfalso
          by_cases hia : i < a
          · have := q1 i hia; omega
          · by_cases e : i = a
            · subst e; exact hh ⟨hi, he⟩
            · have h3 := q2 a (Nat.le_refl _) (by omega)
              have h4 := mono a i (by omega) hi
              omega
      rw [hno] at hcont
      obtain ⟨row, r1, r2, r3⟩ := nlRow hn hc hj h2 h9 hO a P (ixO K) (List.set (List.replicate c (0 : Int)) j 1) (by simp)
      obtain ⟨K', P', k1, k2, k3⟩ := nlLoop xs hn hc h2 h9 hO d (j + 1) a (K + 1) (P ++ [row]) (by omega) (hR.push (by omega) (by omega)) (by omega) ha
        (fun i hi => by have := q1 i hi; omega)
        (fun i hi hl => by
          have h3 := q2 i hi hl
          by_cases e : nth pn i = j
          · exfalso
            have h4 : ((ints pn).any fun y => decide ((j : Int) = y)) = true := hany.2 ⟨i, hl, e⟩
            rw [hno] at h4; cases h4
          · omega)
      have hin : inb (c : Int) (maxN + 1) = true := by rw [inb_nat]; exact decide_eq_true (by unfold maxN; omega)
      have hfit : fits (K + 1) = true := fitsN (by omega)
      have hx : ixO K ++ [K + 1] = ixO (K + 1) := by simp [ixO, List.range_succ]
      have hRl := hR.pl
      refine ⟨K', P', wi_inl (T := fun s => (spec_NullOver_l0_T n c xs p pool ix (ints pn) s).run) ?_ k1, wi_inl (T := fun s => (impl_NullOver_l0_T n c xs p pool ix (ints pn) s).run) ?_ k2, k3⟩
      · by_cases ha2 : a < pn.length
        · have hd : decide (((nth pn a : Nat) : Int) = (j : Int)) = false := decide_eq_false (fun e => hh ⟨ha2, by omega⟩)
          simp only [spec_NullOver_l0_T, Tree.run, lt_nat', hj, ints_len, ha2, inb_nat, decide_true, if_true, Int.toNat_natCast, ints_nth ha2, hd, Bool.false_eq_true, if_false, hin, r1, Option.bind_some, ixO_len, hfit, hw, hRl, hx]
          first | done | (rw [inb_nat] at hin; simp only [hin, if_true])
        · simp only [spec_NullOver_l0_T, Tree.run, lt_nat', hj, ints_len, ha2, inb_nat, decide_true, decide_false, if_true, Int.toNat_natCast, Bool.false_eq_true, if_false, hin, r1, Option.bind_some, ixO_len, hfit, hw, hRl, hx]
          first | done | (rw [inb_nat] at hin; simp only [hin, if_true])
      · simp only [impl_NullOver_l0_T, Tree.run, lt_nat', hj, decide_true, if_true, hcont, Bool.false_eq_true, if_false, hin, inb_nat, ints_len, Int.toNat_natCast, r2, Option.bind_some, ixO_len, hfit, hw, hRl, hx]
        first | done | (rw [inb_nat] at hin; simp only [hin, if_true])
theorem nulO_both (x0 x1 : Int) (x2 : List Int) (x3 : Int) (h2 : x2.length ≤ maxN) (h3 : -9223372036854775808 ≤ x3 ∧ x3 < 9223372036854775808) :
    (spec_NullOver_g x0 x1 x2 x3 = some (.inl ()) ∧ impl_NullOver_g x0 x1 x2 x3 = some (.inl ())) ∨ ∃ K P, spec_NullOver_g x0 x1 x2 x3 = some (.inr (P, ixO K)) ∧ impl_NullOver_g x0 x1 x2 x3 = some (.inr (P, ixO K)) ∧ Rws K P := by
  have wS := whS 1000000 x0 x1 x2 h2 (by omega) (by omega)
  have wI := vwI x0 x1 x2 h2
  have pS := primeS x3 h3.1 h3.2
  have pI := primeI x3 h3.1 h3.2
  cases hw : whB 1000000 x0 x1 x2 with
  | false =>
    rw [hw] at wS wI
    exact .inl ⟨by simp only [spec_NullOver_g, spec_NullOver_T, Tree.run, wS, Option.bind_some, Bool.not_false, if_true], by simp only [impl_NullOver_g, impl_NullOver_T, Tree.run, wI, Option.bind_some, Bool.not_false, if_true]⟩
  | true =>
    rw [hw] at wS wI
    obtain ⟨n, c, rfl, rfl, n1, n2, c1, c2, hl, _⟩ := wh_shape hw
    cases hp : (decide (0 ≤ x3) && prB x3.toNat) with
    | false =>
      rw [hp] at pS pI
      exact .inl ⟨by simp only [spec_NullOver_g, spec_NullOver_T, Tree.run, wS, pS, Option.bind_some, Bool.not_true, Bool.not_false, Bool.false_eq_true, if_false, if_true], by simp only [impl_NullOver_g, impl_NullOver_T, Tree.run, wI, pI, Option.bind_some, Bool.not_true, Bool.not_false, Bool.false_eq_true, if_false, if_true]⟩
    | true =>
      rw [hp] at pS pI
      simp only [Bool.and_eq_true, decide_eq_true_eq] at hp
      obtain ⟨p, rfl⟩ : ∃ p : Nat, x3 = p := ⟨x3.toNat, by omega⟩
      rw [Int.toNat_natCast] at hp
      obtain ⟨det, pool, ix, pn, k1, k2, k3⟩ := overB_i1 hp.2 n2 c1 c2 hl
      obtain ⟨p2, p9⟩ := prB_le hp.2
      obtain ⟨K, P, l1, l2, l3⟩ := nlLoop x2 n2 c2 p2 p9 k3 c 0 0 0 [] (Nat.zero_add _) ⟨rfl, by omega, fun j hj => by omega⟩ (Nat.le_refl _) (Nat.zero_le _) (fun i hi => by omega) (fun i _ hl => Nat.zero_le _)
      have e : ((0 : Nat) : Int) = 0 := rfl
      have e2 : ixO 0 = [] := rfl
      rw [e, e2] at l1 l2
      refine .inr ⟨K, P, ?_, ?_, l3⟩
      · simp only [spec_NullOver_g, spec_NullOver_T, Tree.run, wS, pS, k1, l1, Option.bind_some, Bool.not_true, Bool.false_eq_true, if_false, if_true]
      · simp only [impl_NullOver_g, impl_NullOver_T, Tree.run, wI, pI, k2, l2, Option.bind_some, Bool.not_true, Bool.false_eq_true, if_false, if_true]
theorem nulO (x0 x1 : Int) (x2 : List Int) (x3 : Int) (h0 : -9223372036854775808 ≤ x0 ∧ x0 < 9223372036854775808) (h1 : -9223372036854775808 ≤ x1 ∧ x1 < 9223372036854775808) (h2 : x2.length ≤ maxN) (h3 : -9223372036854775808 ≤ x3 ∧ x3 < 9223372036854775808) : laws_FnExactNullOver_g x0 x1 x2 x3 = some true := by
  have q2 := h2
  unfold maxN at q2
  have t0 := toW_ok x0 x1 x2 h2
  have e0 := eqW_self x0 x1 x2 h2
  have m0 := markW_ok x2 (1) h2 (by omega) (by omega)
  have g1 : decide (((1 : Int) + x2.length : Int) < 0) = false := decide_eq_false (by omega)
  have g2 : decide ((1 : Int) < 0) = false := by decide
  cases z0 : decide (laws_szWhole_v x2 (1048576 : Int) < 0)
  case true => simp only [laws_FnExactNullOver_g, laws_FnExactNullOver_T, Tree.run, z0, Bool.false_eq_true, if_false, if_true]
  rcases nulO_both x0 x1 x2 x3 h2 h3 with ⟨i1, i2⟩ | ⟨K, P, i1, i2, hR⟩
  · simp only [laws_FnExactNullOver_g, laws_FnExactNullOver_T, Tree.run, z0, i1, i2, t0, e0, m0, g1, g2, eqSS0, markSS0, heldSS0, Option.bind_some, Bool.false_eq_true, if_false, if_true, decide_true, Bool.not_true, Bool.not_false, beq_self_eq_true, marks_length, marksI_length]
    first | done | simp [Tree.run]
  · have hb := ofs_bnd hR (m := 1) (by omega) K (Nat.le_refl _)
    have eS := eqSS hR
    have mS := markSS hR (m := 1) (by omega) (by omega)
    have hS := heldSS hR (m := 1) (by omega) (by omega)
    have g3 : decide (ofs P 1 K < 0) = false := decide_eq_false (by omega)
    simp only [laws_FnExactNullOver_g, laws_FnExactNullOver_T, Tree.run, z0, i1, i2, t0, e0, m0, g1, g2, eS, mS, hS, g3, Option.bind_some, Bool.false_eq_true, if_false, if_true, decide_true, Bool.not_true, Bool.not_false, beq_self_eq_true, marks_length, marksI_length]
    first | done | simp [Tree.run]
theorem nulOL (x0 x1 : Int) (x2 : Nat) (x3 : Int) (h0 : -9223372036854775808 ≤ x0 ∧ x0 < 9223372036854775808) (h1 : -9223372036854775808 ≤ x1 ∧ x1 < 9223372036854775808) (h2 : x2 < 9223372036854775808) (h3 : -9223372036854775808 ≤ x3 ∧ x3 < 9223372036854775808) (big : maxN < x2) : laws_FnExactNullOver_len_g x2 = some true := by
  have e := szW_len x2 (1048576) h2 (by omega) (by omega) big
  simp [laws_FnExactNullOver_len_g, laws_FnExactNullOver_len_T, Tree.run, e]
end Go.Proofs.Ytimlecagkbbnpaa.AM
