/- The law SolveOver: both sides, and the law. -/
import Derived.Test.YtimlecagkbbnpaaOVV
set_option linter.unusedSimpArgs false
set_option linter.unusedVariables false
set_option maxHeartbeats 2000000
set_option maxRecDepth 100000
namespace Go.Proofs.Ytimlecagkbbnpaa.AM

theorem ints_len (pn : List Nat) : (ints pn).length = pn.length := by simp [ints]
theorem ints_nth {pn : List Nat} {i : Nat} (h : i < pn.length) : nth (ints pn) i = ((nth pn i : Nat) : Int) := by
  rw [nth_of _ _ (by rw [ints_len]; exact h), nth_of _ _ h]; simp [ints]
theorem slLoop {n c p : Nat} {pool : List (List Int)} {ix pn : List Nat} (hn : n ≤ 6) (hO : Ov n (c + 1) p c pool ix pn) : ∀ (d i : Nat) (out : List Int), i + d = n → out.length = c →
    ∃ r, spec_SolveOver_l0_g c pool ix (ints pn) ((i : Int), out) = some r ∧ ∀ o, r = .inr o → o.length = c
  | 0, i, out, h, hl => by
    have : i = n := by omega
    subst this
    refine ⟨.inr out, wi_inr (T := fun s => (spec_SolveOver_l0_T c pool ix (ints pn) s).run) ?_, fun o ho => by cases ho; exact hl⟩
    simp only [spec_SolveOver_l0_T, Tree.run, lt_nat', hO.sh.il, Nat.lt_irrefl, decide_false, Bool.false_eq_true, if_false]
  | d + 1, i, out, h, hl => by
    have hi : i < n := by omega
    obtain ⟨b1, b2⟩ := hO.sh.ib i hi
    have hrl := hO.sh.rl _ b1 b2
    have hw := w_succ (show i < 4611686018427387904 by omega)
    have hc1 : c < c + 1 := Nat.lt_succ_self c
    by_cases hp : i < pn.length
    · have hq : nth pn i < c := hO.pb _ (by rw [nth_of _ _ hp]; exact List.getElem_mem hp)
      obtain ⟨r, k1, k2⟩ := slLoop hn hO d (i + 1) (out.set (nth pn i) (nth (nget pool (nth ix i)) c)) (by omega) (by simpa using hl)
      refine ⟨r, wi_inl (T := fun s => (spec_SolveOver_l0_T c pool ix (ints pn) s).run) ?_ k1, k2⟩
      simp only [spec_SolveOver_l0_T, Tree.run, lt_nat', hO.sh.il, hi, inb_nat, hrl, hc1, ints_len, hp, ints_nth hp, hl, hq, decide_true, if_true, Int.toNat_natCast, hw]
    · by_cases hz : nth (nget pool (nth ix i)) c = 0
      · obtain ⟨r, k1, k2⟩ := slLoop hn hO d (i + 1) out (by omega) hl
        refine ⟨r, wi_inl (T := fun s => (spec_SolveOver_l0_T c pool ix (ints pn) s).run) ?_ k1, k2⟩
        simp only [spec_SolveOver_l0_T, Tree.run, lt_nat', hO.sh.il, hi, inb_nat, hrl, hc1, ints_len, hp, hz, decide_true, decide_false, if_true, Bool.not_true, Bool.false_eq_true, if_false, Int.toNat_natCast, hw]
      · refine ⟨.inl (), wi_inr (T := fun s => (spec_SolveOver_l0_T c pool ix (ints pn) s).run) ?_, fun o ho => by cases ho⟩
        simp only [spec_SolveOver_l0_T, Tree.run, lt_nat', hO.sh.il, hi, inb_nat, hrl, hc1, ints_len, hp, decide_eq_false hz, decide_true, decide_false, if_true, Bool.not_false, Bool.false_eq_true, if_false, Int.toNat_natCast, hw]
theorem slvO_both (x0 x1 : Int) (x2 x3 : List Int) (x4 : Int) (h2 : x2.length ≤ maxN) (h3 : x3.length ≤ maxN) (h4 : -9223372036854775808 ≤ x4 ∧ x4 < 9223372036854775808) :
    (spec_SolveOver_g x0 x1 x2 x3 x4 = some (.inl ()) ∧ impl_SolveOver_g x0 x1 x2 x3 x4 = some (.inl ())) ∨ ∃ k : List Int, k.length ≤ 6 ∧ spec_SolveOver_g x0 x1 x2 x3 x4 = some (.inr k) ∧ impl_SolveOver_g x0 x1 x2 x3 x4 = some (.inr k) := by
  have wS := whS 1000000 x0 x1 x2 h2 (by omega) (by omega)
  have wI := vwI x0 x1 x2 h2
  have pS := primeS x4 h4.1 h4.2
  have pI := primeI x4 h4.1 h4.2
  have bS := boundS x3 1000000 h3 (by omega) (by omega)
  have bI := allInB x3 (-1000000) 1000000 h3
  have bE : (x3.all fun x => decide ((-1000000 : Int) ≤ x) && decide (x ≤ 1000000)) = bndB 1000000 x3 := rfl
  rw [bE] at bI
  cases hw : whB 1000000 x0 x1 x2 with
  | false =>
    rw [hw] at wS wI
    exact .inl ⟨by simp only [spec_SolveOver_g, spec_SolveOver_T, Tree.run, wS, Option.bind_some, Bool.not_false, if_true], by simp only [impl_SolveOver_g, impl_SolveOver_T, Tree.run, wI, Option.bind_some, Bool.not_false, if_true]⟩
  | true =>
    rw [hw] at wS wI
    obtain ⟨n, c, rfl, rfl, n1, n2, c1, c2, hl, _⟩ := wh_shape hw
    cases hp : (decide (0 ≤ x4) && prB x4.toNat) with
    | false =>
      rw [hp] at pS pI
      exact .inl ⟨by simp only [spec_SolveOver_g, spec_SolveOver_T, Tree.run, wS, pS, Option.bind_some, Bool.not_true, Bool.not_false, Bool.false_eq_true, if_false, if_true], by simp only [impl_SolveOver_g, impl_SolveOver_T, Tree.run, wI, pI, Option.bind_some, Bool.not_true, Bool.not_false, Bool.false_eq_true, if_false, if_true]⟩
    | true =>
      rw [hp] at pS pI
      simp only [Bool.and_eq_true, decide_eq_true_eq] at hp
      obtain ⟨p, rfl⟩ : ∃ p : Nat, x4 = p := ⟨x4.toNat, by omega⟩
      rw [Int.toNat_natCast] at hp
      by_cases hv : x3.length = n
      · have hvd : decide (((x3.length : Nat) : Int) = (n : Int)) = true := decide_eq_true (by omega)
        have hvI : decide (impl_lengthI_v x3 = (n : Int)) = true := hvd
        cases hb : bndB 1000000 x3 with
        | false =>
          rw [hb] at bS bI
          exact .inl ⟨by simp only [spec_SolveOver_g, spec_SolveOver_T, Tree.run, wS, pS, hvd, bS, Option.bind_some, Bool.not_true, Bool.not_false, Bool.false_eq_true, if_false, if_true], by simp only [impl_SolveOver_g, impl_SolveOver_T, Tree.run, wI, pI, hvI, bI, Option.bind_some, Bool.not_true, Bool.not_false, Bool.false_eq_true, if_false, if_true]⟩
        | true =>
          rw [hb] at bS bI
          obtain ⟨det, pool, ix, pn, k1, k2, k3⟩ := overB hp.2 n1 n2 c1 c2 hl hv
          have hin : inb (c : Int) (maxN + 1) = true := by rw [inb_nat]; exact decide_eq_true (by unfold maxN; omega)
          obtain ⟨r, r1, r2⟩ := slLoop n2 k3 n 0 (List.replicate c (0 : Int)) (Nat.zero_add _) (by simp)
          have r1' : impl_SolveOver_l0_g c ((ix.length : Nat) : Int) (ints pn) pool ix (((0 : Nat) : Int), List.replicate c (0 : Int)) = some r := r1
          rw [show ((0 : Nat) : Int) = 0 from rfl] at r1 r1'
          cases r with
          | inl u =>
            refine .inl ⟨?_, ?_⟩
            · simp only [spec_SolveOver_g, spec_SolveOver_T, Tree.run, wS, pS, hvd, bS, k1, hin, Int.toNat_natCast, r1, Option.bind_some, Bool.not_true, Bool.not_false, Bool.false_eq_true, if_false, if_true]
            · simp only [impl_SolveOver_g, impl_SolveOver_T, Tree.run, wI, pI, hvI, bI, k2, hin, Int.toNat_natCast, r1', Option.bind_some, Bool.not_true, Bool.not_false, Bool.false_eq_true, if_false, if_true]
          | inr o =>
            have ho := r2 o rfl
            refine .inr ⟨o, by omega, ?_, ?_⟩
            · simp only [spec_SolveOver_g, spec_SolveOver_T, Tree.run, wS, pS, hvd, bS, k1, hin, Int.toNat_natCast, r1, Option.bind_some, Bool.not_true, Bool.not_false, Bool.false_eq_true, if_false, if_true]
            · simp only [impl_SolveOver_g, impl_SolveOver_T, Tree.run, wI, pI, hvI, bI, k2, hin, Int.toNat_natCast, r1', Option.bind_some, Bool.not_true, Bool.not_false, Bool.false_eq_true, if_false, if_true]
      · have hvd : decide (((x3.length : Nat) : Int) = (n : Int)) = false := decide_eq_false (by omega)
        have hvI : decide (impl_lengthI_v x3 = (n : Int)) = false := hvd
        exact .inl ⟨by simp only [spec_SolveOver_g, spec_SolveOver_T, Tree.run, wS, pS, hvd, Option.bind_some, Bool.not_true, Bool.not_false, Bool.false_eq_true, if_false, if_true], by simp only [impl_SolveOver_g, impl_SolveOver_T, Tree.run, wI, pI, hvI, Option.bind_some, Bool.not_true, Bool.not_false, Bool.false_eq_true, if_false, if_true]⟩
theorem slvO (x0 x1 : Int) (x2 x3 : List Int) (x4 : Int) (h0 : -9223372036854775808 ≤ x0 ∧ x0 < 9223372036854775808) (h1 : -9223372036854775808 ≤ x1 ∧ x1 < 9223372036854775808) (h2 : x2.length ≤ maxN) (h3 : x3.length ≤ maxN) (h4 : -9223372036854775808 ≤ x4 ∧ x4 < 9223372036854775808) : laws_FnExactSolveOver_g x0 x1 x2 x3 x4 = some true := by
  have q2 := h2
  have q3 := h3
  unfold maxN at q2 q3
  have en := eqI_self [] (by simp [maxN])
  have hn := heldI_nil 1 (by omega) (by omega)
  have t0 := toW_ok x0 x1 x2 h2
  have t1 := toI_ok x3 h3
  have e0 := eqW_self x0 x1 x2 h2
  have e1 := eqI_self x3 h3
  have m0 := markW_ok x2 (1) h2 (by omega) (by omega)
  have m1 := markI_ok x3 (1 + x2.length) h3 (by omega) (by omega)
  have g1 : decide (((1 : Int) + x2.length + x3.length : Int) < 0) = false := decide_eq_false (by omega)
  cases y0 : decide ((1048576 : Int) < ((x3.length : Nat) : Int))
  case true => simp only [laws_FnExactSolveOver_g, laws_FnExactSolveOver_T, Tree.run, y0, Bool.false_eq_true, if_false, if_true]
  cases z0 : decide (laws_szWhole_v x2 (1048576 : Int) < 0)
  case true => simp only [laws_FnExactSolveOver_g, laws_FnExactSolveOver_T, Tree.run, y0, z0, Bool.false_eq_true, if_false, if_true]
  rcases slvO_both x0 x1 x2 x3 x4 h2 h3 h4 with ⟨i1, i2⟩ | ⟨H, l1, i1, i2⟩
  · simp only [laws_FnExactSolveOver_g, laws_FnExactSolveOver_T, Tree.run, y0, z0, i1, i2, en, hn, markI_nil, m0, m1, t0, t1, e0, e1, g1, Option.bind_some, Bool.false_eq_true, if_false, if_true, decide_true, Bool.not_true, Bool.not_false, beq_self_eq_true, marks_length, marksI_length]
    first | done | simp [Tree.run]
  · have hd0 : H.length ≤ maxN := by unfold maxN; omega
    have md0 := markI_ok H (1) hd0 (by omega) (by omega)
    have hl0 := heldI_ok (1) H.length hd0 (by omega) (by omega)
    have g20 : decide (((1 : Int) + H.length : Int) < 0) = false := decide_eq_false (by omega)
    have ea := eqI_self H hd0
    simp only [laws_FnExactSolveOver_g, laws_FnExactSolveOver_T, Tree.run, y0, z0, i1, i2, en, hn, markI_nil, m0, m1, t0, t1, e0, e1, g1, md0, hl0, g20, ea, Option.bind_some, Bool.false_eq_true, if_false, if_true, decide_true, Bool.not_true, Bool.not_false, beq_self_eq_true, marks_length, marksI_length]
    first | done | simp [Tree.run]
theorem slvOL (x0 x1 : Int) (x2 x3 : Nat) (x4 : Int) (h0 : -9223372036854775808 ≤ x0 ∧ x0 < 9223372036854775808) (h1 : -9223372036854775808 ≤ x1 ∧ x1 < 9223372036854775808) (h2 : x2 < 9223372036854775808) (h3 : x3 < 9223372036854775808) (h4 : -9223372036854775808 ≤ x4 ∧ x4 < 9223372036854775808) (big : maxN < x2 ∨ maxN < x3) : laws_FnExactSolveOver_len_g x2 x3 = some true := by
  cases y0 : decide ((1048576 : Int) < ((x3 : Nat) : Int))
  case true => simp only [laws_FnExactSolveOver_len_g, laws_FnExactSolveOver_len_T, Tree.run, y0, Bool.false_eq_true, if_false, if_true]
  have hs : ¬ ((1048576 : Int) < (x3 : Int)) := of_decide_eq_false y0
  have hb : maxN < x2 := by
    rcases big with h | h
    · exact h
    · unfold maxN at h; omega
  have e := szW_len x2 (1048576) h2 (by omega) (by omega) hb
  simp only [laws_FnExactSolveOver_len_g, laws_FnExactSolveOver_len_T, Tree.run, y0, e, Bool.false_eq_true, if_false, if_true]
end Go.Proofs.Ytimlecagkbbnpaa.AM
