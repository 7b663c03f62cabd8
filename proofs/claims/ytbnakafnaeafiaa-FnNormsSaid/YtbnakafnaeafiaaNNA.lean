/- EX0 EX1 EX2 EX3 RF0 RF1 RF2 RF3 NM7 -/
import Derived.Test.YtbnakafnaeafiaaD24
set_option linter.unusedSimpArgs false
set_option linter.unusedVariables false
set_option maxHeartbeats 1000000
set_option maxRecDepth 100000
namespace Go.Proofs.Ytbnakafnaeafiaa.AM
open Ieee
/-- One number, written in two ways. -/
theorem near_eq (f : Format) (s : Bool) {m n : Nat} {i j c : Int} (hm : m ≠ 0) (hc : c ≤ i) (hc' : c ≤ j) (h : m * 2 ^ (i - c).toNat = n * 2 ^ (j - c).toNat) (hL : n.log2 ≤ f.fractionBits) (hj : f.leastPlace ≤ j) : f.nearest s m i = f.nearest s n j := by
  have hn : n ≠ 0 := by
    rintro rfl
    rw [Nat.zero_mul] at h
    have := Nat.mul_ne_zero hm (Nat.ne_of_gt (Nat.two_pow_pos (i - c).toNat))
    exact this h
  by_cases hij : i ≤ j
  · obtain ⟨e, he⟩ : ∃ e : Nat, j = i + e := ⟨(j - i).toNat, by omega⟩
    have hmn : m = n * 2 ^ e := by
      have e1 : (j - c).toNat = e + (i - c).toNat := by omega
      rw [e1, Nat.pow_add, ← Nat.mul_assoc] at h
      exact Nat.eq_of_mul_eq_mul_right (Nat.two_pow_pos _) h
    have h1 := near_same f s hn j e hL hj
    have h0 := near_same f s hn j 0 hL hj
    rw [Nat.pow_zero, Nat.mul_one, show j - ((0 : Nat) : Int) = j by omega] at h0
    rw [← hmn, show j - (e : Int) = i by omega] at h1
    rw [h1, h0]
  · obtain ⟨e, he⟩ : ∃ e : Nat, i = j + e := ⟨(i - j).toNat, by omega⟩
    have hmn : n = m * 2 ^ e := by
      have e1 : (i - c).toNat = e + (j - c).toNat := by omega
      rw [e1, Nat.pow_add, ← Nat.mul_assoc] at h
      exact (Nat.eq_of_mul_eq_mul_right (Nat.two_pow_pos _) h).symm
    have hL' : m.log2 ≤ f.fractionBits := by
      rw [hmn, log_mul hm e] at hL; omega
    have h1 := near_same f s hm i e hL' (by omega)
    have h0 := near_same f s hm i 0 hL' (by omega)
    rw [Nat.pow_zero, Nat.mul_one, show i - ((0 : Nat) : Int) = i by omega] at h0
    rw [← hmn, show i - (e : Int) = j by omega] at h1
    rw [h1, h0]
/-- The word of z * 2^p. -/
def W (f : Format) (z p : Int) : Nat := f.nearest (decide (z < 0)) z.natAbs p
/-- The word is a number, and is z * 2^p (c: a place below both). -/
def Is (f : Format) (x : Nat) (z p : Int) : Prop := ∃ s m i, f.read x = .number s m i ∧ f.leastPlace ≤ i ∧ f.leastPlace ≤ p ∧ (if s then -(m : Int) else (m : Int)) * 2 ^ (i - f.leastPlace).toNat = z * 2 ^ (p - f.leastPlace).toNat
/-- No negative zero. -/
def Isp (f : Format) (x : Nat) (z p : Int) : Prop := ∃ s m i, f.read x = .number s m i ∧ f.leastPlace ≤ i ∧ f.leastPlace ≤ p ∧ (if s then -(m : Int) else (m : Int)) * 2 ^ (i - f.leastPlace).toNat = z * 2 ^ (p - f.leastPlace).toNat ∧ (m = 0 → s = false)
theorem Isp.is {f : Format} {x : Nat} {z p : Int} (h : Isp f x z p) : Is f x z p := by
  obtain ⟨s, m, i, h1, h2, h3, h4, _⟩ := h
  exact ⟨s, m, i, h1, h2, h3, h4⟩
theorem ipow_pos (n : Nat) : (0 : Int) < 2 ^ n := Int.pow_pos (by decide)
theorem signed_val (s : Bool) (m : Nat) (k : Nat) : signed s m k = (if s then -(m : Int) else (m : Int)) * 2 ^ k := by
  unfold signed
  rw [Nat.shiftLeft_eq]
  cases s
  · simp
  · simp [Int.neg_mul]
/-- The exact sum. -/
theorem add_is {f : Format} {x y : Nat} {a b p : Int} (hx : Isp f x a p) (hy : Is f y b p) (hb : (a + b).natAbs.log2 ≤ f.fractionBits) : f.add x y = some (W f (a + b) p) := by
  obtain ⟨s, m, i, h1, h2, h3, h4, h5⟩ := hx
  obtain ⟨t, n, j, g1, g2, _, g4⟩ := hy
  unfold Format.add
  rw [h1, g1]
  obtain ⟨l, hl⟩ : ∃ l, l = f.leastPlace := ⟨_, rfl⟩
  rw [← hl] at h2 h3 h4 g2 g4
  have e1 : (i - l).toNat = (i - min i j).toNat + (min i j - l).toNat := by omega
  have e2 : (j - l).toNat = (j - min i j).toNat + (min i j - l).toNat := by omega
  obtain ⟨T, hT⟩ : ∃ T, T = signed s m (i - min i j).toNat + signed t n (j - min i j).toNat := ⟨_, rfl⟩
  have hv : T * 2 ^ (min i j - l).toNat = (a + b) * 2 ^ (p - l).toNat := by
    rw [hT, signed_val, signed_val, Int.add_mul, Int.mul_assoc, Int.mul_assoc, ← Int.pow_add, ← Int.pow_add, ← e1, ← e2, h4, g4, Int.add_mul]
  have hsum : Datum.sum (.number s m i) (.number t n j) = some (.number (if T = 0 then s && t else decide (T < 0)) T.natAbs (min i j)) := by
    simp only [Datum.sum, ← hT]
  rw [hsum]
  simp only [Option.map_some, Option.some.injEq]
  unfold Format.write W
  by_cases hz : a + b = 0
  · have hT0 : T = 0 := by
      rw [hz, Int.zero_mul] at hv
      rcases Int.mul_eq_zero.1 hv with h | h
      · exact h
      · exact absurd h (Int.ne_of_gt (ipow_pos _))
    rw [hz, hT0]
    have hst : (s && t) = false := by
      cases s with
      | false => rfl
      | true =>
        cases t with
        | false => rfl
        | true =>
          have hm : m ≠ 0 := fun h => by have := h5 h; cases this
          rw [hT0] at hT
          rw [signed_val, signed_val] at hT
          simp only [if_true] at hT
          have p1 := ipow_pos (i - min i j).toNat
          have p2 := ipow_pos (j - min i j).toNat
          have q1 : 0 < (m : Int) * 2 ^ (i - min i j).toNat := Int.mul_pos (by omega) p1
          have q2 : 0 ≤ (n : Int) * 2 ^ (j - min i j).toNat := Int.mul_nonneg (by omega) (Int.le_of_lt p2)
          rw [Int.neg_mul, Int.neg_mul] at hT
          omega
    simp only [if_true, hst]
    rw [show (Int.natAbs 0) = 0 from rfl, nearest_zero, nearest_zero, show decide ((0 : Int) < 0) = false from rfl]
  · have hT0 : T ≠ 0 := fun h => by
      rw [h, Int.zero_mul] at hv
      rcases Int.mul_eq_zero.1 hv.symm with h | h
      · exact hz h
      · exact absurd h (Int.ne_of_gt (ipow_pos _))
    have hs : decide (T < 0) = decide (a + b < 0) := by
      have p1 := ipow_pos (min i j - l).toNat
      have p2 := ipow_pos (p - l).toNat
      by_cases h : T < 0
      · have : (a + b) * 2 ^ (p - l).toNat < 0 := by rw [← hv]; exact Int.mul_neg_of_neg_of_pos h p1
        have : a + b < 0 := by
          rcases Int.lt_or_le (a + b) 0 with h' | h'
          · exact h'
          · have := Int.mul_nonneg h' (Int.le_of_lt p2); omega
        rw [decide_eq_true h, decide_eq_true this]
      · have : 0 ≤ (a + b) * 2 ^ (p - l).toNat := by rw [← hv]; exact Int.mul_nonneg (by omega) (Int.le_of_lt p1)
        have : ¬ (a + b < 0) := fun h' => by
          have := Int.mul_neg_of_neg_of_pos h' p2; omega
        rw [decide_eq_false h, decide_eq_false this]
    rw [if_neg hT0, hs]
    refine near_eq f _ (c := l) (by omega) (by omega) (by omega) ?_ hb (by omega)
    have := congrArg Int.natAbs hv
    rw [Int.natAbs_mul, Int.natAbs_mul, Int.natAbs_pow, Int.natAbs_pow] at this
    exact this
/-- The exact product. -/
theorem mul_is {f : Format} {x y : Nat} {a b p q : Int} (hx : Is f x a p) (hy : Is f y b q) (hab : a * b ≠ 0) (hb : (a * b).natAbs.log2 ≤ f.fractionBits) (hpq : f.leastPlace ≤ p + q) (hl0 : f.leastPlace ≤ 0) : f.mul x y = some (W f (a * b) (p + q)) := by
  obtain ⟨s, m, i, h1, h2, h3, h4⟩ := hx
  obtain ⟨t, n, j, g1, g2, g3, g4⟩ := hy
  unfold Format.mul
  rw [h1, g1]
  obtain ⟨l, hl⟩ : ∃ l, l = f.leastPlace := ⟨_, rfl⟩
  rw [← hl] at h2 h3 h4 g2 g3 g4 hpq hl0
  simp only [Datum.product, Option.map_some, Option.some.injEq]
  unfold Format.write W
  have p1 := ipow_pos (i - l).toNat
  have p2 := ipow_pos (j - l).toNat
  have r1 := ipow_pos (p - l).toNat
  have r2 := ipow_pos (q - l).toNat
  have ha : a ≠ 0 := fun h => hab (by rw [h, Int.zero_mul])
  have hb0 : b ≠ 0 := fun h => hab (by rw [h, Int.mul_zero])
  have na : m * 2 ^ (i - l).toNat = a.natAbs * 2 ^ (p - l).toNat := by
    have := congrArg Int.natAbs h4
    rw [Int.natAbs_mul, Int.natAbs_mul, Int.natAbs_pow, Int.natAbs_pow] at this
    cases s <;> simpa using this
  have nb : n * 2 ^ (j - l).toNat = b.natAbs * 2 ^ (q - l).toNat := by
    have := congrArg Int.natAbs g4
    rw [Int.natAbs_mul, Int.natAbs_mul, Int.natAbs_pow, Int.natAbs_pow] at this
    cases t <;> simpa using this
  have sgn : ∀ (s : Bool) (m : Nat) (a A B : Int), 0 < A → 0 < B → a ≠ 0 → (if s then -(m : Int) else (m : Int)) * A = a * B → s = decide (a < 0) := fun s m a A B hA hB ha h => by
    cases s with
    | true =>
      refine (decide_eq_true ?_).symm
      simp only [if_true] at h
      have h0 : 0 ≤ (m : Int) * A := Int.mul_nonneg (by omega) (Int.le_of_lt hA)
      rw [Int.neg_mul] at h
      rcases Int.lt_or_le a 0 with h' | h'
      · exact h'
      · have := Int.mul_pos (show 0 < a by omega) hB; omega
    | false =>
      refine (decide_eq_false ?_).symm
      simp only [Bool.false_eq_true, if_false] at h
      have h0 : 0 ≤ (m : Int) * A := Int.mul_nonneg (by omega) (Int.le_of_lt hA)
      intro h'
      have := Int.mul_neg_of_neg_of_pos h' hB
      omega
  have es := sgn s m a _ _ p1 r1 ha h4
  have et := sgn t n b _ _ p2 r2 hb0 g4
  have hs : (s ^^ t) = decide (a * b < 0) := by
    rw [es, et]
    rcases Int.lt_or_le a 0 with h | h <;> rcases Int.lt_or_le b 0 with h' | h'
    · have := Int.mul_pos_of_neg_of_neg h h'
      rw [decide_eq_true h, decide_eq_true h', decide_eq_false (by omega)]; rfl
    · have := Int.mul_neg_of_neg_of_pos h (show 0 < b by omega)
      rw [decide_eq_true h, decide_eq_false (by omega), decide_eq_true this]; rfl
    · have := Int.mul_neg_of_pos_of_neg (show 0 < a by omega) h'
      rw [decide_eq_false (by omega), decide_eq_true h', decide_eq_true this]; rfl
    · have := Int.mul_pos (show 0 < a by omega) (show 0 < b by omega)
      rw [decide_eq_false (by omega), decide_eq_false (by omega), decide_eq_false (by omega)]; rfl
  have hm : m ≠ 0 := by
    rintro rfl
    rw [Nat.zero_mul] at na
    have := Nat.mul_ne_zero (show a.natAbs ≠ 0 by omega) (Nat.ne_of_gt (Nat.two_pow_pos (p - l).toNat))
    exact this na.symm
  have hn : n ≠ 0 := by
    rintro rfl
    rw [Nat.zero_mul] at nb
    have := Nat.mul_ne_zero (show b.natAbs ≠ 0 by omega) (Nat.ne_of_gt (Nat.two_pow_pos (q - l).toNat))
    exact this nb.symm
  rw [hs]
  refine near_eq f _ (c := l + l) (Nat.mul_ne_zero hm hn) (by omega) (by omega) ?_ hb (by omega)
  have e1 : (i + j - (l + l)).toNat = (i - l).toNat + (j - l).toNat := by omega
  have e2 : (p + q - (l + l)).toNat = (p - l).toNat + (q - l).toNat := by omega
  rw [e1, e2, Nat.pow_add, Nat.pow_add, Int.natAbs_mul]
  calc m * n * (2 ^ (i - l).toNat * 2 ^ (j - l).toNat) = (m * 2 ^ (i - l).toNat) * (n * 2 ^ (j - l).toNat) := by ac_rfl
    _ = (a.natAbs * 2 ^ (p - l).toNat) * (b.natAbs * 2 ^ (q - l).toNat) := by rw [na, nb]
    _ = a.natAbs * b.natAbs * (2 ^ (p - l).toNat * 2 ^ (q - l).toNat) := by ac_rfl
/-- How such numbers lie. -/
theorem order_is {f : Format} {x y : Nat} {a b p : Int} (hx : Is f x a p) (hy : Is f y b p) : f.order x y = some (compare a b) := by
  obtain ⟨s, m, i, h1, h2, h3, h4⟩ := hx
  obtain ⟨t, n, j, g1, g2, _, g4⟩ := hy
  unfold Format.order
  rw [h1, g1]
  obtain ⟨l, hl⟩ : ∃ l, l = f.leastPlace := ⟨_, rfl⟩
  rw [← hl] at h2 h3 h4 g2 g4
  simp only [Datum.order, Option.some.injEq]
  have e1 : (i - l).toNat = (i - min i j).toNat + (min i j - l).toNat := by omega
  have e2 : (j - l).toNat = (j - min i j).toNat + (min i j - l).toNat := by omega
  have hs : signed s m (i - min i j).toNat * 2 ^ (min i j - l).toNat = a * 2 ^ (p - l).toNat := by
    rw [signed_val, Int.mul_assoc, ← Int.pow_add, ← e1, h4]
  have ht : signed t n (j - min i j).toNat * 2 ^ (min i j - l).toNat = b * 2 ^ (p - l).toNat := by
    rw [signed_val, Int.mul_assoc, ← Int.pow_add, ← e2, g4]
  generalize signed s m (i - min i j).toNat = A at hs ⊢
  generalize signed t n (j - min i j).toNat = B at ht ⊢
  have p1 := ipow_pos (min i j - l).toNat
  have p2 := ipow_pos (p - l).toNat
  generalize (2 : Int) ^ (min i j - l).toNat = P at *
  generalize (2 : Int) ^ (p - l).toNat = Q at *
  have hlt : A < B ↔ a < b := by
    constructor
    · intro h
      have := Int.mul_lt_mul_of_pos_right h p1
      rw [hs, ht] at this
      exact Int.lt_of_mul_lt_mul_right this (Int.le_of_lt p2)
    · intro h
      have := Int.mul_lt_mul_of_pos_right h p2
      rw [← hs, ← ht] at this
      exact Int.lt_of_mul_lt_mul_right this (Int.le_of_lt p1)
  have hgt : B < A ↔ b < a := by
    constructor
    · intro h
      have := Int.mul_lt_mul_of_pos_right h p1
      rw [hs, ht] at this
      exact Int.lt_of_mul_lt_mul_right this (Int.le_of_lt p2)
    · intro h
      have := Int.mul_lt_mul_of_pos_right h p2
      rw [← hs, ← ht] at this
      exact Int.lt_of_mul_lt_mul_right this (Int.le_of_lt p1)
  show compare A B = compare a b
  simp only [compare, compareOfLessAndEq]
  by_cases c1 : A < B
  · rw [if_pos c1, if_pos (hlt.1 c1)]
  · rw [if_neg c1, if_neg (fun h => c1 (hlt.2 h))]
    by_cases c2 : B < A
    · have := hgt.1 c2
      rw [if_neg (by omega), if_neg (by omega)]
    · have h1 : ¬ (a < b) := fun h => c1 (hlt.2 h)
      have h2 : ¬ (b < a) := fun h => c2 (hgt.2 h)
      rw [if_pos (by omega), if_pos (by omega)]
theorem read_word (f : Format) (neg : Bool) {r : Nat} (h : r < f.signWeight) : (f.word neg r / f.signWeight % 2 == 1) = neg ∧ f.word neg r % f.signWeight = r := by
  unfold Format.word
  cases neg
  · simp only [Bool.false_eq_true, if_false]
    rw [Nat.div_eq_of_lt h, Nat.mod_eq_of_lt h]
    exact ⟨rfl, rfl⟩
  · simp only [if_true]
    have hp : 0 < f.signWeight := by omega
    rw [Nat.add_comm, Nat.add_div_right _ hp, Nat.div_eq_of_lt h, Nat.add_mod_right, Nat.mod_eq_of_lt h]
    exact ⟨rfl, rfl⟩
/-- What the format can hold is read as it was written. -/
theorem W_isp {f : Format} {z p : Int} (hL : z.natAbs.log2 ≤ f.fractionBits) (hp : f.leastPlace ≤ p) (htop : ((max (p + z.natAbs.log2 - f.fractionBits) f.leastPlace - f.leastPlace).toNat + 2) * f.binade ≤ f.infRung) (hs : f.infRung < f.signWeight) : Isp f (W f z p) z p := by
  have hbp : 0 < f.binade := Nat.two_pow_pos _
  by_cases hz : z = 0
  · subst hz
    have e : W f 0 p = 0 := by
      unfold W
      rw [show (Int.natAbs 0) = 0 from rfl, nearest_zero]
      rfl
    rw [e]
    refine ⟨false, 0, f.leastPlace, ?_, Int.le_refl _, hp, by simp, fun _ => rfl⟩
    unfold Format.read
    simp only [Nat.zero_div, Nat.zero_mod]
    rw [if_pos hbp]
    rfl
  · obtain ⟨m, hm⟩ : ∃ m, m = z.natAbs := ⟨_, rfl⟩
    have hm0 : m ≠ 0 := by omega
    rw [← hm] at hL htop
    have hw := near_same f (decide (z < 0)) hm0 p 0 hL hp
    rw [Nat.pow_zero, Nat.mul_one, show p - ((0 : Nat) : Int) = p by omega] at hw
    obtain ⟨last, hl⟩ : ∃ last, last = max (p + m.log2 - f.fractionBits) f.leastPlace := ⟨_, rfl⟩
    rw [← hl] at hw htop
    obtain ⟨e, he⟩ : ∃ e, e = (last - f.leastPlace).toNat := ⟨_, rfl⟩
    rw [← he] at hw htop
    obtain ⟨K, hK⟩ : ∃ K, K = m * 2 ^ (p - last).toNat := ⟨_, rfl⟩
    rw [← hK] at hw
    have hb2 : f.binade = 2 ^ f.fractionBits := rfl
    have hK2 : K < 2 * f.binade := by
      have h1 := Nat.mul_lt_mul_of_pos_right (pow_lt_log hm0) (Nat.two_pow_pos (p - last).toNat)
      rw [← hK, ← Nat.pow_add] at h1
      refine Nat.lt_of_lt_of_le h1 ?_
      rw [hb2, ← Nat.pow_succ']
      exact Nat.pow_le_pow_right (by decide) (by omega)
    have hK0 : K ≠ 0 := by rw [hK]; exact Nat.mul_ne_zero hm0 (Nat.ne_of_gt (Nat.two_pow_pos _))
    have hr : e * f.binade + K < f.infRung := by
      have := Nat.add_mul e 2 f.binade
      omega
    rw [Nat.min_eq_left (by omega)] at hw
    have hW : W f z p = f.word (decide (z < 0)) (e * f.binade + K) := by unfold W; rw [← hm]; exact hw
    obtain ⟨q1, q2⟩ := read_word f (decide (z < 0)) (r := e * f.binade + K) (by omega)
    have hval : K * 2 ^ e = m * 2 ^ (p - f.leastPlace).toNat := by
      rw [hK, Nat.mul_assoc, ← Nat.pow_add]
      congr 2
      omega
    have hsg : ∀ i : Int, (i - f.leastPlace).toNat = e → (if decide (z < 0) = true then -(K : Int) else (K : Int)) * 2 ^ (i - f.leastPlace).toNat = z * 2 ^ (p - f.leastPlace).toNat := fun i hi => by
      rw [hi]
      have hv : (K : Int) * 2 ^ e = (m : Int) * 2 ^ (p - f.leastPlace).toNat := by
        have := congrArg (fun n : Nat => (n : Int)) hval
        simpa using this
      by_cases h : z < 0
      · rw [if_pos (decide_eq_true h), Int.neg_mul, hv, show z = -(m : Int) by omega, Int.neg_mul]
      · rw [if_neg (by simpa using h), hv, show z = (m : Int) by omega]
    rw [hW]
    unfold Isp Format.read
    simp only [q1, q2]
    by_cases c1 : e * f.binade + K < f.binade
    · have e0 : e = 0 := by
        rcases Nat.eq_zero_or_pos e with h | h
        · exact h
        · have := Nat.mul_le_mul_right f.binade h; omega
      rw [if_pos c1]
      exact ⟨_, _, _, rfl, Int.le_refl _, hp, by rw [e0, Nat.zero_mul, Nat.zero_add]; exact hsg _ (by omega), fun h => absurd h (by omega)⟩
    · rw [if_neg c1, if_pos hr]
      by_cases e0 : e = 0
      · subst e0
        simp only [Nat.zero_mul, Nat.zero_add] at c1 hr ⊢
        have d1 : K / f.binade = 1 := by
          refine Nat.div_eq_of_lt_le (by omega) (by omega)
        have d2 : K % f.binade = K - f.binade := by
          rw [Nat.mod_eq_sub_mod (by omega), Nat.mod_eq_of_lt (by omega)]
        rw [d1, d2]
        refine ⟨_, _, _, rfl, by omega, hp, ?_, fun h => absurd h (by omega)⟩
        rw [show f.binade + (K - f.binade) = K by omega]
        exact hsg _ (by omega)
      · have hK1 : f.binade ≤ K := by
          have a : 2 ^ m.log2 ≤ m := Nat.log2_self_le hm0
          have := Nat.mul_le_mul_right (2 ^ (p - last).toNat) a
          rw [← Nat.pow_add, ← hK] at this
          refine Nat.le_trans (Nat.le_of_eq ?_) this
          rw [hb2]
          congr 1
          omega
        have d1 : (e * f.binade + K) / f.binade = e + 1 := by
          refine Nat.div_eq_of_lt_le ?_ ?_
          · rw [Nat.add_mul]; omega
          · rw [Nat.add_mul, Nat.add_mul]; omega
        have d2 : (e * f.binade + K) % f.binade = K - f.binade := by
          rw [Nat.mul_comm, Nat.mul_add_mod, Nat.mod_eq_sub_mod hK1, Nat.mod_eq_of_lt (by omega)]
        rw [d1, d2]
        refine ⟨_, _, _, rfl, by omega, hp, ?_, fun h => absurd h (by omega)⟩
        rw [show f.binade + (K - f.binade) = K by omega]
        exact hsg _ (by omega)
theorem s1 : single.signWeight = 2147483648 := by kernel_rfl
theorem s2 : single.binade = 8388608 := by kernel_rfl
theorem s3 : single.infRung = 2139095040 := by kernel_rfl
theorem s4 : single.leastPlace = -149 := by kernel_rfl
theorem t1 : double.signWeight = 9223372036854775808 := by kernel_rfl
theorem t2 : double.binade = 4503599627370496 := by kernel_rfl
theorem t3 : double.infRung = 9218868437227405312 := by kernel_rfl
theorem t4 : double.leastPlace = -1074 := by kernel_rfl
theorem log_le {n k : Nat} (h : n < 2 ^ (k + 1)) : n.log2 ≤ k := by
  by_cases h0 : n = 0
  · subst h0; simp
  · have := (Nat.log2_lt h0).2 h; omega
abbrev W4 (z p : Int) : Nat := W single z p
abbrev W8 (z p : Int) : Nat := W double z p
theorem W4_isp {z p : Int} (hz : z.natAbs < 16777216) (h0 : -149 ≤ p) (h1 : p ≤ 100) : Isp single (W4 z p) z p := by
  have hL : z.natAbs.log2 ≤ 23 := log_le (by omega)
  refine W_isp (by exact hL) (by rw [s4]; exact h0) ?_ (by rw [s1, s3]; decide)
  rw [s2, s3, s4]
  have : single.fractionBits = 23 := rfl
  rw [this]
  have h2 : ((max (p + (z.natAbs.log2 : Int) - ((23 : Nat) : Int)) (-149) - -149).toNat + 2) ≤ 255 := by omega
  calc _ ≤ 255 * 8388608 := Nat.mul_le_mul_right _ h2
    _ = 2139095040 := by decide
theorem W8_isp {z p : Int} (hz : z.natAbs < 9007199254740992) (h0 : -1074 ≤ p) (h1 : p ≤ 900) : Isp double (W8 z p) z p := by
  have hL : z.natAbs.log2 ≤ 52 := log_le (by omega)
  refine W_isp (by exact hL) (by rw [t4]; exact h0) ?_ (by rw [t1, t3]; decide)
  rw [t2, t3, t4]
  have : double.fractionBits = 52 := rfl
  rw [this]
  have h2 : ((max (p + (z.natAbs.log2 : Int) - ((52 : Nat) : Int)) (-1074) - -1074).toNat + 2) ≤ 2047 := by omega
  calc _ ≤ 2047 * 4503599627370496 := Nat.mul_le_mul_right _ h2
    _ = 9218868437227405312 := by decide
theorem is_num4 {x : Nat} {z p : Int} (h : Is single x z p) : isNan .f32 x = false := by
  obtain ⟨s, m, i, h1, _⟩ := h
  unfold isNan
  show (single.read x).isNaN = false
  rw [h1]; rfl
theorem is_num8 {x : Nat} {z p : Int} (h : Is double x z p) : isNan .f64 x = false := by
  obtain ⟨s, m, i, h1, _⟩ := h
  unfold isNan
  show (double.read x).isNaN = false
  rw [h1]; rfl
theorem add4 {x y : Nat} {a b p : Int} (hx : Isp single x a p) (hy : Is single y b p) (hz : (a + b).natAbs < 16777216) (h0 : -149 ≤ p) (h1 : p ≤ 100) : fadd .f32 x y = W4 (a + b) p := by
  have h := add_is hx hy (log_le (k := 23) (by omega))
  show fres .f32 (single.add x y) = _
  rw [h]
  exact canon_num (is_num4 (W4_isp hz h0 h1).is)
/-- A product is what it should be; of a zero the sign may be either. -/
theorem mul_any {f : Format} {x y : Nat} {a b p q : Int} (hx : Is f x a p) (hy : Is f y b q) (hb : (a * b).natAbs.log2 ≤ f.fractionBits) (hpq : f.leastPlace ≤ p + q) (hl0 : f.leastPlace ≤ 0) (hw : Isp f (W f (a * b) (p + q)) (a * b) (p + q)) (hneg : ∀ s, ∃ t, f.read (f.word s 0) = .number t 0 f.leastPlace) :
    ∃ w, f.mul x y = some w ∧ Is f w (a * b) (p + q) ∧ (a * b ≠ 0 → w = W f (a * b) (p + q)) := by
  by_cases h : a * b = 0
  · obtain ⟨s, m, i, h1, h2, h3, h4⟩ := hx
    obtain ⟨t, n, j, g1, g2, g3, g4⟩ := hy
    have hz : ∀ (s : Bool) (m : Nat) (A B : Int), 0 < A → (if s then -(m : Int) else (m : Int)) * A = 0 * B → m = 0 := fun s m A B hA h => by
      rw [Int.zero_mul] at h
      rcases Int.mul_eq_zero.1 h with h | h
      · cases s <;> simp at h <;> omega
      · omega
    have hmn : m * n = 0 := by
      rcases Int.mul_eq_zero.1 h with h | h
      · rw [h] at h4
        rw [hz s m _ _ (ipow_pos _) h4, Nat.zero_mul]
      · rw [h] at g4
        rw [hz t n _ _ (ipow_pos _) g4, Nat.mul_zero]
    refine ⟨f.word (s ^^ t) 0, ?_, ?_, fun h' => absurd h h'⟩
    · unfold Format.mul
      rw [h1, g1]
      simp only [Datum.product, Option.map_some, Option.some.injEq]
      show f.nearest (s ^^ t) (m * n) (i + j) = _
      rw [hmn, nearest_zero]
    · obtain ⟨u, hu⟩ := hneg (s ^^ t)
      exact ⟨u, 0, _, hu, Int.le_refl _, hpq, by rw [h]; simp⟩
  · exact ⟨_, mul_is hx hy h hb hpq hl0, hw.is, fun _ => rfl⟩
theorem zero4 (s : Bool) : ∃ t, single.read (single.word s 0) = .number t 0 single.leastPlace := by cases s <;> exact ⟨_, rfl⟩
theorem zero8 (s : Bool) : ∃ t, double.read (double.word s 0) = .number t 0 double.leastPlace := by cases s <;> exact ⟨_, rfl⟩
theorem mul4 {x y : Nat} {a b p q : Int} (hx : Is single x a p) (hy : Is single y b q) (hz : (a * b).natAbs < 16777216) (h0 : -149 ≤ p + q) (h1 : p + q ≤ 100) : Is single (fmul .f32 x y) (a * b) (p + q) := by
  obtain ⟨w, w1, w2, _⟩ := mul_any hx hy (log_le (k := 23) (by omega)) (by rw [s4]; exact h0) (by rw [s4]; decide) (W4_isp hz h0 h1) zero4
  have e : fmul .f32 x y = w := by
    show fres .f32 (single.mul x y) = _
    rw [w1]
    exact canon_num (is_num4 w2)
  rw [e]; exact w2
theorem less8 {x y : Nat} {a b p : Int} (hx : Is double x a p) (hy : Is double y b p) : fless .f64 x y = decide (a < b) := by
  show (double.order x y == some .lt) = _
  rw [order_is hx hy]
  simp only [compare, compareOfLessAndEq]
  by_cases c1 : a < b
  · rw [if_pos c1, decide_eq_true c1]; rfl
  · rw [if_neg c1, decide_eq_false c1]
    by_cases c2 : a = b
    · rw [if_pos c2]; rfl
    · rw [if_neg c2]; rfl
/-- Widened, it is the same. -/
theorem wid_is {x : Nat} {z p : Int} (h : Is single x z p) (hz : z.natAbs < 9007199254740992) (h1 : p ≤ 200) : Is double (wid x) z p ∧ (z ≠ 0 → wid x = W8 z p) := by
  obtain ⟨s, m, i, h1', h2, h3, h4⟩ := h
  rw [s4] at h2 h3 h4
  have hd : FloatKind.f32.decode x = .number s m i := h1'
  have hw : Is double (double.nearest s m i) z p → wid x = double.nearest s m i := fun hI => by
    have hi : (FloatKind.f64.decode (FloatKind.f64.encode (Datum.number s m i))).isInfinity = false := by
      obtain ⟨u, n, j, g, _⟩ := hI
      show (double.read (double.nearest s m i)).isInfinity = false
      rw [g]; rfl
    unfold wid fconv
    rw [if_neg (by decide), hd]
    simp only [hi, Bool.false_eq_true, if_false, Option.getD_some]
    exact canon_num (is_num8 hI)
  have hv : m * 2 ^ (i - -149).toNat = z.natAbs * 2 ^ (p - -149).toNat := by
    have := congrArg Int.natAbs h4
    rw [Int.natAbs_mul, Int.natAbs_mul, Int.natAbs_pow, Int.natAbs_pow] at this
    cases s <;> simpa using this
  by_cases hz0 : z = 0
  · have hm : m = 0 := by
      rw [hz0] at hv
      rcases Nat.mul_eq_zero.1 (hv.trans (Nat.zero_mul _)) with h | h
      · exact h
      · exact absurd h (Nat.ne_of_gt (Nat.two_pow_pos _))
    rw [hm, nearest_zero] at hw
    obtain ⟨u, hu⟩ := zero8 s
    have hI : Is double (double.word s 0) z p := ⟨u, 0, _, hu, Int.le_refl _, by rw [t4]; omega, by rw [hz0]; simp⟩
    have hw := hw hI
    exact ⟨by rw [hw]; exact hI, fun h => absurd hz0 h⟩
  · have hm : m ≠ 0 := by
      rintro rfl
      rw [Nat.zero_mul] at hv
      have := Nat.mul_ne_zero (show z.natAbs ≠ 0 by omega) (Nat.ne_of_gt (Nat.two_pow_pos (p - -149).toNat))
      exact this hv.symm
    have hs : s = decide (z < 0) := by
      have p1 := ipow_pos (i - -149).toNat
      have p2 := ipow_pos (p - -149).toNat
      cases s with
      | true =>
        refine (decide_eq_true ?_).symm
        simp only [if_true, Int.neg_mul] at h4
        have := Int.mul_pos (show (0 : Int) < m by omega) p1
        rcases Int.lt_or_le z 0 with h' | h'
        · exact h'
        · have := Int.mul_nonneg h' (Int.le_of_lt p2); omega
      | false =>
        refine (decide_eq_false ?_).symm
        simp only [Bool.false_eq_true, if_false] at h4
        have := Int.mul_pos (show (0 : Int) < m by omega) p1
        intro h'
        have := Int.mul_neg_of_neg_of_pos h' p2
        omega
    have e : double.nearest s m i = W8 z p := by
      unfold W8 W
      rw [hs]
      exact near_eq double _ (c := -149) hm h2 h3 hv (log_le (k := 52) (by omega)) (by rw [t4]; omega)
    have hI := W8_isp hz (show (-1074 : Int) ≤ p by omega) (by omega)
    rw [e] at hw
    have hw := hw hI.is
    exact ⟨by rw [hw]; exact hI.is, fun _ => hw⟩
/-- The exact difference with 0, and from 0. -/
theorem sub_zero8 {z p : Int} (hz : z.natAbs < 9007199254740992) (h0 : -1074 ≤ p) (h1 : p ≤ 900) : fsub .f64 (W8 z p) 0 = W8 z p ∧ fsub .f64 0 (W8 z p) = W8 (-z) p := by
  have hx := W8_isp hz h0 h1
  obtain ⟨s, m, i, g1, g2, g3, g4, g5⟩ := hx
  have r0 : double.read 0 = .number false 0 (-1074) := by kernel_rfl
  have hL : z.natAbs.log2 ≤ double.fractionBits := log_le (k := 52) (by omega)
  have hn : (-z).natAbs < 9007199254740992 := by omega
  rw [t4] at g2 g3 g4
  have hb : min i (-1074) = -1074 := by omega
  have hb' : min (-1074) i = -1074 := by omega
  obtain ⟨T, hT⟩ : ∃ T, T = signed s m (i - -1074).toNat := ⟨_, rfl⟩
  have hv : T = z * 2 ^ (p - -1074).toNat := by rw [hT, signed_val]; exact g4
  have p2 := ipow_pos (p - -1074).toNat
  have hz0 : T = 0 ↔ z = 0 := by
    rw [hv]
    constructor
    · intro h
      rcases Int.mul_eq_zero.1 h with h | h
      · exact h
      · omega
    · intro h; rw [h, Int.zero_mul]
  have hlt : T < 0 ↔ z < 0 := by
    rw [hv]
    constructor
    · intro h
      rcases Int.lt_or_le z 0 with h' | h'
      · exact h'
      · have := Int.mul_nonneg h' (Int.le_of_lt p2); omega
    · intro h; exact Int.mul_neg_of_neg_of_pos h p2
  have hgt : -T < 0 ↔ 0 < z := by
    constructor
    · intro h
      rcases Int.lt_or_le 0 z with h' | h'
      · exact h'
      · have : ¬ (T > 0) := by
          intro hT'
          have := Int.mul_nonneg (show 0 ≤ -z by omega) (Int.le_of_lt p2)
          rw [Int.neg_mul, ← hv] at this; omega
        omega
    · intro h
      have := Int.mul_pos h p2
      rw [← hv] at this; omega
  have hnat : T.natAbs * 2 ^ (-1074 - -1074 : Int).toNat = z.natAbs * 2 ^ (p - -1074).toNat := by
    have := congrArg Int.natAbs hv
    rw [Int.natAbs_mul, Int.natAbs_pow] at this
    rw [this]; simp
  have z0 : signed true 0 (Int.toNat 0) = 0 := by decide
  have z1 : signed false 0 (Int.toNat 0) = 0 := by decide
  have so : signed (!s) m (i - -1074).toNat = -T := by
    rw [hT, signed_val, signed_val]; cases s <;> simp [Int.neg_mul]
  constructor
  · have hsum : double.sub (W8 z p) 0 = some (W8 z p) := by
      unfold Format.sub
      rw [g1, r0]
      simp only [Datum.opposite, Datum.sum, hb, ← hT, Int.sub_self, z0, Int.add_zero, Bool.not_false, Option.map_some, Option.some.injEq]
      show double.nearest _ T.natAbs (-1074) = W8 z p
      unfold W8 W
      by_cases c : z = 0
      · have c' := hz0.2 c
        have hs : s = false := g5 (by
          rw [hT, signed_val] at c'
          rcases Int.mul_eq_zero.1 c' with h | h
          · cases s <;> simp at h <;> omega
          · have := ipow_pos (i - -1074).toNat; omega)
        rw [c, c', hs]
        simp only [if_true, Bool.false_and, Int.natAbs_zero, nearest_zero, Int.lt_irrefl, decide_false]
      · have c' : T ≠ 0 := fun h => c (hz0.1 h)
        have e : (if T = 0 then s && true else decide (T < 0)) = decide (z < 0) := by
          rw [if_neg c']; exact decide_eq_decide.2 hlt
        rw [e]
        exact near_eq double _ (c := -1074) (by omega) (Int.le_refl _) g3 hnat hL (by rw [t4]; exact g3)
    show fres .f64 (double.sub (W8 z p) 0) = _
    rw [hsum]
    exact canon_num (is_num8 (W8_isp hz h0 h1).is)
  · have hsum : double.sub 0 (W8 z p) = some (W8 (-z) p) := by
      unfold Format.sub
      rw [g1, r0]
      simp only [Datum.opposite, Datum.sum, hb', so, Int.sub_self, z1, Int.zero_add, Option.map_some, Option.some.injEq]
      show double.nearest _ (-T).natAbs (-1074) = W8 (-z) p
      unfold W8 W
      rw [Int.natAbs_neg, Int.natAbs_neg]
      by_cases c : z = 0
      · have c' := hz0.2 c
        rw [c, c']
        simp only [Int.neg_zero, if_true, Bool.false_and, Int.natAbs_zero, nearest_zero, Int.lt_irrefl, decide_false]
      · have c' : -T ≠ 0 := fun h => c (hz0.1 (by omega))
        have e : (if -T = 0 then false && !s else decide (-T < 0)) = decide (-z < 0) := by
          rw [if_neg c']; exact decide_eq_decide.2 (hgt.trans (by omega))
        rw [e]
        exact near_eq double _ (c := -1074) (by omega) (Int.le_refl _) g3 hnat hL (by rw [t4]; exact g3)
    show fres .f64 (double.sub 0 (W8 z p)) = _
    rw [hsum]
    exact canon_num (is_num8 (W8_isp hn h0 h1).is)
theorem max8 {a b p : Int} (ha : a.natAbs < 9007199254740992) (hb : b.natAbs < 9007199254740992) (h0 : -1074 ≤ p) (h1 : p ≤ 900) : fmaxA .f64 (W8 a p) (W8 b p) = W8 (if a < b then b else a) p := by
  have h := order_is (W8_isp ha h0 h1).is (W8_isp hb h0 h1).is
  unfold fmaxA
  have h : FloatKind.f64.format.order (W8 a p) (W8 b p) = some (compare a b) := h
  rw [h]
  simp only [compare, compareOfLessAndEq]
  by_cases c1 : a < b
  · rw [if_pos c1, if_pos c1]
  · rw [if_neg c1, if_neg c1]
    by_cases c2 : a = b
    · rw [if_pos c2, c2]; simp
    · rw [if_neg c2]
theorem max4 {a b p : Int} (ha : a.natAbs < 16777216) (hb : b.natAbs < 16777216) (h0 : -149 ≤ p) (h1 : p ≤ 100) : fmaxA .f32 (W4 a p) (W4 b p) = W4 (if a < b then b else a) p := by
  have h := order_is (W4_isp ha h0 h1).is (W4_isp hb h0 h1).is
  unfold fmaxA
  have h : FloatKind.f32.format.order (W4 a p) (W4 b p) = some (compare a b) := h
  rw [h]
  simp only [compare, compareOfLessAndEq]
  by_cases c1 : a < b
  · rw [if_pos c1, if_pos c1]
  · rw [if_neg c1, if_neg c1]
    by_cases c2 : a = b
    · rw [if_pos c2, c2]; simp
    · rw [if_neg c2]
/-- The size of a double. -/
theorem gap8 {z p : Int} (hz : z.natAbs < 9007199254740992) (h0 : -1074 ≤ p) (h1 : p ≤ 900) : fmaxA .f64 (fsub .f64 (W8 z p) 0) (fsub .f64 0 (W8 z p)) = W8 (z.natAbs : Int) p := by
  obtain ⟨e1, e2⟩ := sub_zero8 hz h0 h1
  rw [e1, e2, max8 hz (by omega) h0 h1]
  congr 1
  split <;> omega
theorem qtr_tab : ((List.range 33).all fun b => Nat.beq (fdiv .f32 (fofint .f32 ((b : Int) - 16)) 1082130432) (W4 ((b : Int) - 16) (-2))) = true := by kernel_rfl
theorem qtr_w {b : Int} (h0 : 0 ≤ b) (h1 : b < 33) : fdiv .f32 (fofint .f32 (b - 16)) 1082130432 = W4 (b - 16) (-2) := by
  have := List.all_eq_true.1 qtr_tab b.toNat (List.mem_range.2 (by omega))
  rw [show ((b.toNat : Nat) : Int) = b by omega] at this
  exact Nat.eq_of_beq_eq_true this
/-- Such a word: a sign above a rung. -/
theorem W4_word {z p : Int} (hz : z.natAbs < 16777216) (h0 : -149 ≤ p) (h1 : p ≤ 100) : ∃ r, r < 2139095040 ∧ (∀ s, single.nearest s z.natAbs p = single.word s r) := by
  by_cases c : z.natAbs = 0
  · exact ⟨0, by decide, fun s => by rw [c, nearest_zero]⟩
  · have hL : z.natAbs.log2 ≤ 23 := log_le (by omega)
    have hw := fun s => near_same single s c p 0 hL (by rw [s4]; exact h0)
    obtain ⟨r, hr⟩ : ∃ r, r = (max (p + (z.natAbs.log2 : Int) - ((23 : Nat) : Int)) (-149) - -149).toNat * 8388608 + z.natAbs * 2 ^ (p - max (p + (z.natAbs.log2 : Int) - ((23 : Nat) : Int)) (-149)).toNat := ⟨_, rfl⟩
    obtain ⟨l, hl⟩ : ∃ l, l = max (p + (z.natAbs.log2 : Int) - ((23 : Nat) : Int)) (-149) := ⟨_, rfl⟩
    rw [← hl] at hr
    have hk : z.natAbs * 2 ^ (p - l).toNat < 16777216 := by
      have h2 := Nat.mul_lt_mul_of_pos_right (pow_lt_log c) (Nat.two_pow_pos (p - l).toNat)
      rw [← Nat.pow_add] at h2
      refine Nat.lt_of_lt_of_le h2 ?_
      rw [show (16777216 : Nat) = 2 ^ 24 by decide]
      exact Nat.pow_le_pow_right (by decide) (by omega)
    have hm : (l - -149).toNat * 8388608 ≤ 249 * 8388608 := Nat.mul_le_mul_right _ (by omega)
    have hlt : r < 2139095040 := by omega
    refine ⟨r, hlt, fun s => ?_⟩
    have h3 := hw s
    rw [Nat.pow_zero, Nat.mul_one, s2, s3, s4] at h3
    have e0 : p - ((0 : Nat) : Int) = p := by omega
    have e1 : single.fractionBits = 23 := rfl
    rw [e0, e1, ← hl, ← hr, Nat.min_eq_left (by omega)] at h3
    exact h3
theorem W4_mod {z p : Int} (hz : z.natAbs < 16777216) (h0 : -149 ≤ p) (h1 : p ≤ 100) : W4 z p % 2147483648 = W4 (z.natAbs : Int) p ∧ W4 z p < 4294967296 := by
  obtain ⟨r, hr, hw⟩ := W4_word hz h0 h1
  have e1 : W4 z p = single.word (decide (z < 0)) r := hw _
  have e2 : W4 (z.natAbs : Int) p = single.word false r := by
    unfold W4 W
    rw [decide_eq_false (show ¬ ((z.natAbs : Int) < 0) by omega), Int.natAbs_natCast]
    exact hw false
  rw [e1, e2]
  unfold Format.word
  rw [s1]
  cases decide (z < 0)
  · simp only [Bool.false_eq_true, if_false]
    exact ⟨Nat.mod_eq_of_lt (by omega), by omega⟩
  · simp only [if_true, Bool.false_eq_true, if_false]
    exact ⟨by omega, by omega⟩
theorem W4_fin {z p : Int} (hz : z.natAbs < 16777216) (h0 : -149 ≤ p) (h1 : p ≤ 100) : sfin (W4 z p) = true := by
  rw [sfin_iff]
  obtain ⟨s, m, i, h, _⟩ := W4_isp hz h0 h1
  unfold isNum
  have h : FloatKind.f32.decode (W4 z p) = .number s m i := h
  rw [h]
theorem abs4 {z p : Int} (hz : z.natAbs < 16777216) (h0 : -149 ≤ p) (h1 : p ≤ 100) : fconv .f64 (fabs (wid (W4 z p))) .f32 = some (W4 (z.natAbs : Int) p) := by
  rw [(abs_any (W4_fin hz h0 h1)).1, (W4_mod hz h0 h1).1]
theorem W4_zero (p : Int) : W4 0 p = 0 := by
  unfold W4 W
  rw [Int.natAbs_zero, nearest_zero]; rfl
theorem W8_zero (p : Int) : W8 0 p = 0 := by
  unfold W8 W
  rw [Int.natAbs_zero, nearest_zero]; rfl
theorem wid_W {z p : Int} (hz : z.natAbs < 16777216) (h0 : -149 ≤ p) (h1 : p ≤ 100) : wid (W4 z p) = W8 z p := by
  by_cases c : z = 0
  · subst c
    rw [W4_zero, W8_zero]
    kernel_rfl
  · exact (wid_is (W4_isp hz h0 h1).is (by omega) (by omega)).2 c
/-- Powers of two. -/
def P2 (p : Int) : Rat := (2 : Rat) ^ p
theorem P2_add (p q : Int) : P2 (p + q) = P2 p * P2 q := Rat.zpow_add (by decide) p q
theorem P2_pos (p : Int) : 0 < P2 p := Rat.zpow_pos (by decide)
theorem P2_nat (n : Nat) : P2 (n : Int) = ((2 ^ n : Nat) : Rat) := by
  unfold P2
  rw [Rat.zpow_natCast, Rat.natCast_pow]; rfl
theorem P2_zero : P2 0 = 1 := Rat.zpow_zero 2
theorem P2_ge_one {p : Int} (h : 0 ≤ p) : 1 ≤ P2 p := by
  obtain ⟨n, rfl⟩ : ∃ n : Nat, p = (n : Int) := ⟨p.toNat, by omega⟩
  rw [P2_nat]
  have : ((1 : Nat) : Rat) ≤ ((2 ^ n : Nat) : Rat) := Rat.natCast_le_natCast.2 (Nat.one_le_two_pow)
  exact this
theorem P2_le {p q : Int} (h : p ≤ q) : P2 p ≤ P2 q := by
  have e : P2 q = P2 p * P2 (q - p) := by rw [← P2_add]; congr 1; omega
  have := Rat.mul_le_mul_of_nonneg_left (P2_ge_one (show 0 ≤ q - p by omega)) (Rat.le_of_lt (P2_pos p))
  rw [e]; grind
theorem P2_half (p : Int) : P2 p = 2 * P2 (p - 1) := by
  have e : P2 p = P2 1 * P2 (p - 1) := by rw [← P2_add]; congr 1; omega
  have : P2 1 = 2 := Rat.zpow_one 2
  rw [e, this]
/-- What a datum stands for. -/
def val : Datum → Rat
  | .number s m i => (if s then -(m : Rat) else (m : Rat)) * P2 i
  | _ => 0
def V (f : Format) (x : Nat) : Rat := val (f.read x)
theorem cut_err (neg : Bool) (n d : Nat) : 2 * (Toward.even.cut neg n d * 2 ^ d) ≤ 2 * n + 2 ^ d ∧ 2 * n ≤ 2 * (Toward.even.cut neg n d * 2 ^ d) + 2 ^ d := by
  unfold Toward.cut
  dsimp only
  by_cases hd : d ≤ n.log2 + 2
  · rw [Nat.min_eq_left hd, Nat.one_shiftLeft]
    have hp : 0 < 2 ^ d := Nat.two_pow_pos d
    generalize 2 ^ d = g at *
    have h1 := Nat.div_add_mod n g
    have h2 := Nat.mod_lt n hp
    generalize n / g = low at *
    generalize n % g = rest at *
    rw [Nat.mul_comm g low] at h1
    by_cases c : (decide (g < 2 * rest) || (g == 2 * rest && low % 2 == 1)) = true
    · rw [c]
      simp only [Bool.or_eq_true, decide_eq_true_eq, Bool.and_eq_true, beq_iff_eq] at c
      have : g ≤ 2 * rest := by omega
      simp only [Bool.toNat_true, Nat.add_mul, Nat.one_mul]
      omega
    · rw [Bool.not_eq_true] at c
      rw [c]
      simp only [Bool.or_eq_false_iff, decide_eq_false_iff_not] at c
      have : 2 * rest ≤ g := by omega
      simp only [Bool.toNat_false, Nat.add_zero]
      omega
  · rw [Nat.min_eq_right (by omega), Nat.one_shiftLeft]
    have h1 : n < 2 ^ (n.log2 + 1) := by
      by_cases h0 : n = 0
      · rw [h0]; exact Nat.two_pow_pos _
      · exact pow_lt_log h0
    have h2 : 2 ^ (n.log2 + 2) = 2 * 2 ^ (n.log2 + 1) := by rw [Nat.pow_succ' (n := n.log2 + 1)]
    have h3 : 2 ^ (n.log2 + 2) ≤ 2 ^ d := Nat.pow_le_pow_right (by decide) (by omega)
    have h4 : n / 2 ^ (n.log2 + 2) = 0 := Nat.div_eq_of_lt (by omega)
    have h5 : n % 2 ^ (n.log2 + 2) = n := Nat.mod_eq_of_lt (by omega)
    have h6 : decide (2 ^ (n.log2 + 2) < 2 * n) = false := decide_eq_false (by omega)
    rw [h4, h5, h6]
    simp only [Bool.false_or, Nat.zero_mod, show ((0 : Nat) == 1) = false from rfl, Bool.and_false, Bool.toNat_false, Nat.zero_add, Nat.zero_mul, Nat.mul_zero]
    omega
/-- The number at a rung. -/
theorem read_rung (f : Format) (s : Bool) {e k : Nat} (hk : k ≤ 2 * f.binade) (he : 0 < e → f.binade ≤ k) (ht : (e + 3) * f.binade ≤ f.infRung) (hs : f.infRung < f.signWeight) :
    ∃ m i, f.read (f.word s (e * f.binade + k)) = .number s m i ∧ (m : Rat) * P2 i = (k : Rat) * P2 (f.leastPlace + e) := by
  have hb : 0 < f.binade := Nat.two_pow_pos _
  obtain ⟨b, hB⟩ : ∃ b, b = f.binade := ⟨_, rfl⟩
  rw [← hB] at hk he ht hb ⊢
  have ht' : e * b + 3 * b ≤ f.infRung := by rw [← Nat.add_mul]; exact ht
  have hr : e * b + k < f.infRung := by omega
  obtain ⟨g1, g2⟩ := read_word f s (r := e * b + k) (by omega)
  unfold Format.read
  dsimp only
  rw [g1, g2, ← hB]
  by_cases c1 : e * b + k < b
  · rw [if_pos c1]
    have e0 : e = 0 := by
      rcases Nat.eq_zero_or_pos e with h | h
      · exact h
      · have := Nat.mul_le_mul_right b (show 1 ≤ e from h); omega
    subst e0
    exact ⟨_, _, rfl, by simp⟩
  · rw [if_neg c1, if_pos hr]
    refine ⟨_, _, rfl, ?_⟩
    by_cases c2 : k < b
    · have e0 : e = 0 := by
        rcases Nat.eq_zero_or_pos e with h | h
        · exact h
        · have := he h; omega
      subst e0; omega
    · by_cases c3 : k = 2 * b
      · have h1 : e * b + k = (e + 2) * b := by rw [Nat.add_mul, c3]
        rw [h1, Nat.mul_mod_left, Nat.mul_div_cancel _ hb, Nat.add_zero]
        have h2 : f.leastPlace + ((e + 2 - 1 : Nat) : Int) = 1 + (f.leastPlace + e) := by omega
        have h3 : P2 1 = 2 := Rat.zpow_one 2
        rw [h2, P2_add, h3, c3, Rat.natCast_mul]
        have : ((2 : Nat) : Rat) = 2 := rfl
        rw [this]; grind
      · have h1 : e * b + k = (k - b) + (e + 1) * b := by rw [Nat.add_mul, Nat.one_mul]; omega
        rw [h1, Nat.add_mul_mod_self_right, Nat.mod_eq_of_lt (by omega), Nat.add_mul_div_right _ _ hb, Nat.div_eq_of_lt (by omega)]
        have h2 : f.leastPlace + ((0 + (e + 1) - 1 : Nat) : Int) = f.leastPlace + e := by omega
        rw [h2, show b + (k - b) = k by omega]
/-- What is written is near: half a unit of its last place. -/
theorem near_val (f : Format) (s : Bool) {m : Nat} (hm : m ≠ 0) (p : Int) (ht : ((max (p + m.log2 - f.fractionBits) f.leastPlace - f.leastPlace).toNat + 3) * f.binade ≤ f.infRung) (hs : f.infRung < f.signWeight) :
    ∃ k i, f.read (f.nearest s m p) = .number s k i ∧ (k : Rat) * P2 i - (m : Rat) * P2 p ≤ P2 (max (p + m.log2 - f.fractionBits) f.leastPlace - 1) ∧ (m : Rat) * P2 p - (k : Rat) * P2 i ≤ P2 (max (p + m.log2 - f.fractionBits) f.leastPlace - 1) ∧
      (max (p + m.log2 - f.fractionBits) f.leastPlace ≤ p → (k : Rat) * P2 i = (m : Rat) * P2 p) := by
  obtain ⟨l, hl⟩ : ∃ l, l = max (p + m.log2 - f.fractionBits) f.leastPlace := ⟨_, rfl⟩
  have hw : f.nearest s m p = f.word s (min ((l - f.leastPlace).toNat * f.binade + Toward.even.cut s (m <<< (p - l).toNat) (l - p).toNat) f.infRung) := by
    unfold Format.nearest
    rw [if_neg hm, hl]
  rw [← hl] at ht ⊢
  obtain ⟨k, hk⟩ : ∃ k, k = Toward.even.cut s (m <<< (p - l).toNat) (l - p).toNat := ⟨_, rfl⟩
  obtain ⟨e, he⟩ : ∃ e, e = (l - f.leastPlace).toNat := ⟨_, rfl⟩
  rw [← hk, ← he] at hw
  rw [← he] at ht
  have hl1 : p + m.log2 - f.fractionBits ≤ l := by omega
  have hl2 : f.leastPlace ≤ l := by omega
  have hb2 : f.binade = 2 ^ f.fractionBits := rfl
  have hmlo : 2 ^ m.log2 ≤ m := Nat.log2_self_le hm
  have hmhi := pow_lt_log hm
  have herr := cut_err s (m <<< (p - l).toNat) (l - p).toNat
  rw [← hk, Nat.shiftLeft_eq] at herr
  have hk2 : k ≤ 2 * f.binade := by
    by_cases c : l ≤ p
    · have e0 : (l - p).toNat = 0 := by omega
      rw [e0, Nat.pow_zero, Nat.mul_one] at herr
      have h1 := Nat.mul_lt_mul_of_pos_right hmhi (Nat.two_pow_pos (p - l).toNat)
      rw [← Nat.pow_add] at h1
      have h2 : 2 ^ (m.log2 + 1 + (p - l).toNat) ≤ 2 ^ (f.fractionBits + 1) := Nat.pow_le_pow_right (by decide) (by omega)
      rw [Nat.pow_succ' (n := f.fractionBits), ← hb2] at h2
      omega
    · have e0 : (p - l).toNat = 0 := by omega
      rw [e0, Nat.pow_zero, Nat.mul_one] at herr
      have h1 : 2 ^ (m.log2 + 1) ≤ 2 ^ (f.fractionBits + 1 + (l - p).toNat) := Nat.pow_le_pow_right (by decide) (by omega)
      rw [Nat.pow_add (m := f.fractionBits + 1), Nat.pow_succ' (n := f.fractionBits), ← hb2] at h1
      have hp := Nat.two_pow_pos (l - p).toNat
      generalize 2 ^ (l - p).toNat = g at *
      have h3 : 2 * (k * g) < (2 * (2 * f.binade) + 1) * g := by rw [Nat.add_mul, Nat.one_mul, Nat.mul_assoc]; omega
      rw [← Nat.mul_assoc] at h3
      have := Nat.lt_of_mul_lt_mul_right h3
      omega
  have hklo : 0 < e → f.binade ≤ k := by
    intro h
    have hl3 : l = p + m.log2 - f.fractionBits := by omega
    by_cases c : l ≤ p
    · have e0 : (l - p).toNat = 0 := by omega
      rw [e0, Nat.pow_zero, Nat.mul_one] at herr
      have h1 := Nat.mul_le_mul_right (2 ^ (p - l).toNat) hmlo
      rw [← Nat.pow_add, show m.log2 + (p - l).toNat = f.fractionBits by omega, ← hb2] at h1
      omega
    · have e0 : (p - l).toNat = 0 := by omega
      rw [e0, Nat.pow_zero, Nat.mul_one] at herr
      have h1 : 2 ^ m.log2 = 2 ^ f.fractionBits * 2 ^ (l - p).toNat := by rw [← Nat.pow_add]; congr 1; omega
      rw [← hb2] at h1
      have hp := Nat.two_pow_pos (l - p).toNat
      generalize 2 ^ (l - p).toNat = g at *
      have h3 : (2 * f.binade) * g < (2 * k + 2) * g := by rw [Nat.add_mul, Nat.mul_assoc, Nat.mul_assoc]; omega
      have := Nat.lt_of_mul_lt_mul_right h3
      omega
  have hmin : e * f.binade + k ≤ f.infRung := by
    rw [Nat.add_mul] at ht; omega
  rw [Nat.min_eq_left hmin] at hw
  obtain ⟨k', i, r1, r2⟩ := read_rung f s hk2 hklo ht hs
  rw [← hw] at r1
  have hle : f.leastPlace + (e : Int) = l := by omega
  rw [hle] at r2
  refine ⟨k', i, r1, ?_⟩
  rw [r2]
  by_cases c : l ≤ p
  · have e0 : (l - p).toNat = 0 := by omega
    rw [e0, Nat.pow_zero, Nat.mul_one] at herr
    have hkk : k = m * 2 ^ (p - l).toNat := by omega
    have hv : (k : Rat) * P2 l = (m : Rat) * P2 p := by
      have h1 : P2 p = P2 ((p - l).toNat : Int) * P2 l := by rw [← P2_add]; congr 1; omega
      rw [h1, P2_nat, hkk, Rat.natCast_mul]; grind
    have hp := P2_pos (l - 1)
    rw [hv]
    refine ⟨by grind, by grind, fun _ => rfl⟩
  · have e0 : (p - l).toNat = 0 := by omega
    rw [e0, Nat.pow_zero, Nat.mul_one] at herr
    obtain ⟨h1, h2⟩ := herr
    have h1 := Rat.natCast_le_natCast.2 h1
    have h2 := Rat.natCast_le_natCast.2 h2
    simp only [Rat.natCast_mul, Rat.natCast_add] at h1 h2
    have t2 : ((2 : Nat) : Rat) = 2 := rfl
    rw [← P2_nat, t2] at h1 h2
    have hpl : P2 l = P2 ((l - p).toNat : Int) * P2 p := by rw [← P2_add]; congr 1; omega
    have hh := P2_half l
    have hp := P2_pos p
    have g1 := Rat.mul_le_mul_of_nonneg_right h1 (Rat.le_of_lt hp)
    have g2 := Rat.mul_le_mul_of_nonneg_right h2 (Rat.le_of_lt hp)
    generalize P2 ((l - p).toNat : Int) = G at *
    generalize P2 p = Q at *
    generalize P2 (l - 1) = H at *
    rw [hpl] at hh ⊢
    refine ⟨by grind, by grind, fun h => absurd h c⟩
theorem read_low (f : Format) (x : Nat) {s : Bool} {m : Nat} {i : Int} (h : f.read x = .number s m i) : f.leastPlace ≤ i := by
  unfold Format.read at h
  dsimp only at h
  by_cases c1 : x % f.signWeight < f.binade
  · rw [if_pos c1] at h
    injection h with _ _ h3
    omega
  · rw [if_neg c1] at h
    by_cases c2 : x % f.signWeight < f.infRung
    · rw [if_pos c2] at h
      injection h with _ _ h3
      omega
    · rw [if_neg c2] at h
      split at h <;> cases h
/-- The format's greatest power that is let in. -/
def Top (f : Format) (T : Int) : Prop := f.infRung < f.signWeight ∧ ∀ q : Int, q < T → ((max (q - f.fractionBits) f.leastPlace - f.leastPlace).toNat + 3) * f.binade ≤ f.infRung
theorem top8 : Top double 1000 := by
  refine ⟨by rw [t1, t3]; decide, fun q hq => ?_⟩
  rw [t2, t3, t4]
  have h1 : double.fractionBits = 52 := rfl
  rw [h1]
  have h2 : (max (q - ((52 : Nat) : Int)) (-1074) - -1074).toNat + 3 ≤ 2047 := by omega
  exact Nat.mul_le_mul_right 4503599627370496 h2
theorem top4 : Top single 100 := by
  refine ⟨by rw [s1, s3]; decide, fun q hq => ?_⟩
  rw [s2, s3, s4]
  have h1 : single.fractionBits = 23 := rfl
  rw [h1]
  have h2 : (max (q - ((23 : Nat) : Int)) (-149) - -149).toNat + 3 ≤ 255 := by omega
  exact Nat.mul_le_mul_right 8388608 h2
def eps (f : Format) : Rat := P2 (-(f.fractionBits : Int) - 1)
def tau (f : Format) : Rat := P2 (f.leastPlace - 1)
theorem eps_pos (f : Format) : 0 < eps f := P2_pos _
theorem tau_pos (f : Format) : 0 < tau f := P2_pos _
theorem P2_lt {p q : Int} (h : P2 p < P2 q) : p < q := by
  rcases Int.lt_or_le p q with h' | h'
  · exact h'
  · have := P2_le h'; grind
theorem mag_pos (m : Nat) (p : Int) : 0 ≤ (m : Rat) * P2 p := Rat.mul_nonneg Rat.natCast_nonneg (Rat.le_of_lt (P2_pos p))
theorem log_mag {m : Nat} (hm : m ≠ 0) (p : Int) : P2 (p + m.log2) ≤ (m : Rat) * P2 p := by
  rw [Int.add_comm, P2_add, P2_nat]
  exact Rat.mul_le_mul_of_nonneg_right (Rat.natCast_le_natCast.2 (Nat.log2_self_le hm)) (Rat.le_of_lt (P2_pos p))
theorem write_val {f : Format} {T : Int} (hT : Top f T) (s : Bool) (m : Nat) (p : Int) (hv : (m : Rat) * P2 p < P2 T) :
    ∃ k i, f.read (f.nearest s m p) = .number s k i ∧ (k : Rat) * P2 i - (m : Rat) * P2 p ≤ (m : Rat) * P2 p * eps f + tau f ∧ (m : Rat) * P2 p - (k : Rat) * P2 i ≤ (m : Rat) * P2 p * eps f + tau f ∧
      (f.leastPlace ≤ p → (k : Rat) * P2 i - (m : Rat) * P2 p ≤ (m : Rat) * P2 p * eps f ∧ (m : Rat) * P2 p - (k : Rat) * P2 i ≤ (m : Rat) * P2 p * eps f) := by
  have ht := tau_pos f
  have he := eps_pos f
  by_cases hm : m = 0
  · subst hm
    rw [nearest_zero]
    have hb : 0 < f.binade := Nat.two_pow_pos _
    have hi : 0 < f.infRung := by
      have := hT.2 (T - 1) (by omega)
      have h3 : 3 * f.binade ≤ ((max (T - 1 - f.fractionBits) f.leastPlace - f.leastPlace).toNat + 3) * f.binade := Nat.mul_le_mul_right _ (by omega)
      omega
    obtain ⟨g1, g2⟩ := read_word f s (r := 0) (by have := hT.1; omega)
    refine ⟨0, f.leastPlace, ?_, ?_⟩
    · unfold Format.read
      dsimp only
      rw [g1, g2, if_pos hb]
    · have : ((0 : Nat) : Rat) = 0 := rfl
      rw [this]
      grind
  · have hlog := log_mag hm p
    have hq : p + m.log2 < T := P2_lt (by grind)
    obtain ⟨k, i, h1, h2, h3, h4⟩ := near_val f s hm p (hT.2 _ hq) hT.1
    refine ⟨k, i, h1, ?_⟩
    have hmag := mag_pos m p
    have hme := Rat.mul_nonneg hmag (Rat.le_of_lt he)
    by_cases c : p + m.log2 - f.fractionBits ≤ f.leastPlace
    · rw [Int.max_eq_right c] at h2 h3 h4
      have e : tau f = P2 (f.leastPlace - 1) := rfl
      rw [← e] at h2 h3
      refine ⟨by grind, by grind, fun h => ?_⟩
      have := h4 h
      grind
    · rw [Int.max_eq_left (by omega)] at h2 h3
      have e : P2 (p + m.log2 - f.fractionBits - 1) = P2 (p + m.log2) * eps f := by
        unfold eps
        rw [← P2_add]; congr 1; omega
      have g := Rat.mul_le_mul_of_nonneg_right hlog (Rat.le_of_lt he)
      rw [e] at h2 h3
      refine ⟨by grind, by grind, fun h => ⟨by grind, by grind⟩⟩
/-- Is a number. -/
def isn (f : Format) (x : Nat) : Prop := ∃ s m i, f.read x = .number s m i
theorem val_num (s : Bool) (m : Nat) (i : Int) : val (.number s m i) = (if s then -(m : Rat) else (m : Rat)) * P2 i := rfl
/-- A written number: how far it lies. -/
theorem write_er {f : Format} {T : Int} (hT : Top f T) (s : Bool) (m : Nat) (p : Int) {v B : Rat} (hv : val (.number s m p) = v) (h1 : v ≤ B) (h2 : -v ≤ B) (hB : B < P2 T) :
    isn f (f.nearest s m p) ∧ V f (f.nearest s m p) - v ≤ B * eps f + tau f ∧ v - V f (f.nearest s m p) ≤ B * eps f + tau f ∧
      (f.leastPlace ≤ p → V f (f.nearest s m p) - v ≤ B * eps f ∧ v - V f (f.nearest s m p) ≤ B * eps f) := by
  have hm := mag_pos m p
  have hmB : (m : Rat) * P2 p ≤ B := by
    rw [val_num] at hv
    cases s
    · simp only [Bool.false_eq_true, if_false] at hv; grind
    · simp only [if_true] at hv; grind
  obtain ⟨k, i, r, g1, g2, g3⟩ := write_val hT s m p (by grind)
  have he := Rat.mul_le_mul_of_nonneg_right hmB (Rat.le_of_lt (eps_pos f))
  refine ⟨⟨s, k, i, r⟩, ?_⟩
  have hV : V f (f.nearest s m p) = (if s then -(k : Rat) else (k : Rat)) * P2 i := by unfold V; rw [r]; rfl
  rw [hV, ← hv, val_num]
  cases s
  · simp only [Bool.false_eq_true, if_false]
    refine ⟨by grind, by grind, fun h => ?_⟩
    obtain ⟨q1, q2⟩ := g3 h
    exact ⟨by grind, by grind⟩
  · simp only [if_true]
    refine ⟨by grind, by grind, fun h => ?_⟩
    obtain ⟨q1, q2⟩ := g3 h
    exact ⟨by grind, by grind⟩
theorem int_ab (T : Int) : ((T.natAbs : Nat) : Rat) = if T < 0 then -(T : Rat) else (T : Rat) := by
  by_cases h : T < 0
  · rw [if_pos h, ← Rat.intCast_neg, ← Rat.intCast_natCast]
    congr 1; omega
  · rw [if_neg h, ← Rat.intCast_natCast]
    congr 1; omega
theorem signed_rat (s : Bool) (m k : Nat) : ((signed s m k : Int) : Rat) = (if s then -(m : Rat) else (m : Rat)) * P2 (k : Int) := by
  rw [signed_val, Rat.intCast_mul, P2_nat, Rat.intCast_pow, Rat.natCast_pow]
  have e : ((2 : Int) : Rat) = ((2 : Nat) : Rat) := rfl
  cases s
  · simp only [Bool.false_eq_true, if_false, Rat.intCast_natCast, e]
  · simp only [if_true, Rat.intCast_natCast, Rat.intCast_neg, e]
/-- The exact sum. -/
theorem sum_val {s t : Bool} {m n : Nat} {i j : Int} : ∃ u T, Datum.sum (.number s m i) (.number t n j) = some (.number u T (min i j)) ∧ val (.number u T (min i j)) = val (.number s m i) + val (.number t n j) := by
  obtain ⟨T, hT⟩ : ∃ T, T = signed s m (i - min i j).toNat + signed t n (j - min i j).toNat := ⟨_, rfl⟩
  refine ⟨if T = 0 then s && t else decide (T < 0), T.natAbs, by simp only [Datum.sum, ← hT], ?_⟩
  have hv : (T : Rat) * P2 (min i j) = val (.number s m i) + val (.number t n j) := by
    have e1 : P2 i = P2 ((i - min i j).toNat : Int) * P2 (min i j) := by rw [← P2_add]; congr 1; omega
    have e2 : P2 j = P2 ((j - min i j).toNat : Int) * P2 (min i j) := by rw [← P2_add]; congr 1; omega
    rw [hT, Rat.intCast_add, signed_rat, signed_rat, val_num, val_num, e1, e2, Rat.add_mul, Rat.mul_assoc, Rat.mul_assoc]
  rw [← hv, val_num, int_ab]
  by_cases h0 : T = 0
  · subst h0
    have : ((0 : Int) : Rat) = 0 := rfl
    simp only [Int.lt_irrefl, if_false, this]
    split <;> grind
  · rw [if_neg h0]
    by_cases h : T < 0
    · simp only [h, decide_true, if_true]; grind
    · simp only [h, decide_false, Bool.false_eq_true, if_false]
theorem canon8 {x : Nat} (h : isn double x) : canon .f64 x = x := by
  obtain ⟨s, m, i, h⟩ := h
  refine canon_num ?_
  unfold isNan
  show (double.read x).isNaN = false
  rw [h]; rfl
theorem add_er {f : Format} {T : Int} (hT : Top f T) {x y : Nat} (hx : isn f x) (hy : isn f y) {B : Rat} (h1 : V f x + V f y ≤ B) (h2 : -(V f x + V f y) ≤ B) (hB : B < P2 T) :
    ∃ w, f.add x y = some w ∧ isn f w ∧ V f w - (V f x + V f y) ≤ B * eps f ∧ (V f x + V f y) - V f w ≤ B * eps f := by
  obtain ⟨s, m, i, hx⟩ := hx
  obtain ⟨t, n, j, hy⟩ := hy
  have l1 := read_low f x hx
  have l2 := read_low f y hy
  obtain ⟨u, k, hs, hv⟩ := @sum_val s t m n i j
  unfold V at h1 h2
  rw [hx, hy] at h1 h2
  obtain ⟨g1, _, _, g3⟩ := write_er hT u k (min i j) hv h1 h2 hB
  obtain ⟨g4, g5⟩ := g3 (by omega)
  refine ⟨f.nearest u k (min i j), ?_, g1, ?_⟩
  · unfold Format.add
    rw [hx, hy, hs]; rfl
  · have e1 : V f x = val (.number s m i) := by unfold V; rw [hx]
    have e2 : V f y = val (.number t n j) := by unfold V; rw [hy]
    rw [e1, e2]
    exact ⟨g4, g5⟩
theorem opp_val (s : Bool) (m : Nat) (i : Int) : val (.number (!s) m i) = -val (.number s m i) := by
  rw [val_num, val_num]
  cases s
  · simp only [Bool.not_false, if_true, Bool.false_eq_true, if_false]; grind
  · simp only [Bool.not_true, if_true, Bool.false_eq_true, if_false]; grind
theorem sub_er {f : Format} {T : Int} (hT : Top f T) {x y : Nat} (hx : isn f x) (hy : isn f y) {B : Rat} (h1 : V f x - V f y ≤ B) (h2 : -(V f x - V f y) ≤ B) (hB : B < P2 T) :
    ∃ w, f.sub x y = some w ∧ isn f w ∧ V f w - (V f x - V f y) ≤ B * eps f ∧ (V f x - V f y) - V f w ≤ B * eps f := by
  obtain ⟨s, m, i, hx⟩ := hx
  obtain ⟨t, n, j, hy⟩ := hy
  have l1 := read_low f x hx
  have l2 := read_low f y hy
  obtain ⟨u, k, hs, hv⟩ := @sum_val s (!t) m n i j
  rw [opp_val] at hv
  unfold V at h1 h2
  rw [hx, hy] at h1 h2
  obtain ⟨g1, _, _, g3⟩ := write_er hT u k (min i j) hv (by grind) (by grind) hB
  obtain ⟨g4, g5⟩ := g3 (by omega)
  refine ⟨f.nearest u k (min i j), ?_, g1, ?_⟩
  · unfold Format.sub
    rw [hx, hy]
    simp only [Datum.opposite]
    rw [hs]; rfl
  · have e1 : V f x = val (.number s m i) := by unfold V; rw [hx]
    have e2 : V f y = val (.number t n j) := by unfold V; rw [hy]
    rw [e1, e2]
    exact ⟨by grind, by grind⟩
theorem mul_er {f : Format} {T : Int} (hT : Top f T) {x y : Nat} (hx : isn f x) (hy : isn f y) {B : Rat} (h1 : V f x * V f y ≤ B) (h2 : -(V f x * V f y) ≤ B) (hB : B < P2 T) :
    ∃ w, f.mul x y = some w ∧ isn f w ∧ V f w - V f x * V f y ≤ B * eps f + tau f ∧ V f x * V f y - V f w ≤ B * eps f + tau f := by
  obtain ⟨s, m, i, hx⟩ := hx
  obtain ⟨t, n, j, hy⟩ := hy
  have hv : val (.number (s ^^ t) (m * n) (i + j)) = val (.number s m i) * val (.number t n j) := by
    rw [val_num, val_num, val_num, P2_add, Rat.natCast_mul]
    cases s <;> cases t <;> simp <;> grind
  unfold V at h1 h2
  rw [hx, hy] at h1 h2
  obtain ⟨g1, g4, g5, _⟩ := write_er hT (s ^^ t) (m * n) (i + j) hv h1 h2 hB
  refine ⟨f.nearest (s ^^ t) (m * n) (i + j), ?_, g1, ?_⟩
  · unfold Format.mul
    rw [hx, hy]; rfl
  · have e1 : V f x = val (.number s m i) := by unfold V; rw [hx]
    have e2 : V f y = val (.number t n j) := by unfold V; rw [hy]
    rw [e1, e2]
    exact ⟨g4, g5⟩
theorem order_val {f : Format} {x y : Nat} (hx : isn f x) (hy : isn f y) : f.order x y = some (if V f x < V f y then .lt else if V f x = V f y then .eq else .gt) := by
  obtain ⟨s, m, i, hx⟩ := hx
  obtain ⟨t, n, j, hy⟩ := hy
  have e1 : V f x = val (.number s m i) := by unfold V; rw [hx]
  have e2 : V f y = val (.number t n j) := by unfold V; rw [hy]
  unfold Format.order
  rw [hx, hy, e1, e2, val_num, val_num]
  simp only [Datum.order, Option.some.injEq]
  have p1 : P2 i = P2 ((i - min i j).toNat : Int) * P2 (min i j) := by rw [← P2_add]; congr 1; omega
  have p2 : P2 j = P2 ((j - min i j).toNat : Int) * P2 (min i j) := by rw [← P2_add]; congr 1; omega
  have hp := P2_pos (min i j)
  rw [p1, p2, ← Rat.mul_assoc, ← Rat.mul_assoc, ← signed_rat, ← signed_rat]
  generalize signed s m (i - min i j).toNat = A
  generalize signed t n (j - min i j).toNat = C
  simp only [compare, compareOfLessAndEq]
  have hlt : (A : Rat) * P2 (min i j) < (C : Rat) * P2 (min i j) ↔ A < C := by rw [Rat.mul_lt_mul_right hp, Rat.intCast_lt_intCast]
  by_cases c1 : A < C
  · rw [if_pos c1, if_pos (hlt.2 c1)]
  · rw [if_neg c1, if_neg (fun h => c1 (hlt.1 h))]
    by_cases c2 : A = C
    · rw [if_pos c2, if_pos (by rw [c2])]
    · have : ¬ ((A : Rat) * P2 (min i j) = (C : Rat) * P2 (min i j)) := fun h => c2 (by
        have h3 : (A : Rat) = (C : Rat) := by
          rcases Rat.mul_eq_zero.1 (show ((A : Rat) - C) * P2 (min i j) = 0 by grind) with h | h
          · grind
          · grind
        exact Rat.intCast_inj.1 h3)
      rw [if_neg c2, if_neg this]
theorem is_val {f : Format} {x : Nat} {z p : Int} (h : Is f x z p) : isn f x ∧ V f x = (z : Rat) * P2 p := by
  obtain ⟨s, m, i, h1, h2, h3, h4⟩ := h
  refine ⟨⟨s, m, i, h1⟩, ?_⟩
  unfold V
  rw [h1, val_num]
  have e := congrArg (fun (t : Int) => (t : Rat)) h4
  simp only [Rat.intCast_mul, Rat.intCast_pow] at e
  have p1 : P2 i = P2 ((i - f.leastPlace).toNat : Int) * P2 f.leastPlace := by rw [← P2_add]; congr 1; omega
  have p2 : P2 p = P2 ((p - f.leastPlace).toNat : Int) * P2 f.leastPlace := by rw [← P2_add]; congr 1; omega
  have e2 : ∀ n : Nat, ((2 : Int) : Rat) ^ n = P2 (n : Int) := fun n => by rw [P2_nat, Rat.natCast_pow]; rfl
  rw [e2, e2] at e
  rw [p1, p2, ← Rat.mul_assoc, ← Rat.mul_assoc, ← e]
  cases s
  · simp only [Bool.false_eq_true, if_false, Rat.intCast_natCast]
  · simp only [if_true, Rat.intCast_natCast, Rat.intCast_neg]
theorem read_hi (f : Format) (x : Nat) {s : Bool} {m : Nat} {i : Int} (h : f.read x = .number s m i) : m < 2 * f.binade ∧ i ≤ f.leastPlace + (f.infRung / f.binade : Nat) := by
  have hb : 0 < f.binade := Nat.two_pow_pos _
  unfold Format.read at h
  dsimp only at h
  obtain ⟨K, hK⟩ : ∃ K, K = f.infRung / f.binade := ⟨_, rfl⟩
  rw [← hK]
  by_cases c1 : x % f.signWeight < f.binade
  · rw [if_pos c1] at h
    injection h with _ h2 h3
    omega
  · rw [if_neg c1] at h
    by_cases c2 : x % f.signWeight < f.infRung
    · rw [if_pos c2] at h
      injection h with _ h2 h3
      have g1 := Nat.mod_lt (x % f.signWeight) hb
      have g2 := Nat.div_le_div_right (c := f.binade) (Nat.le_of_lt c2)
      rw [← hK] at g2
      obtain ⟨J, hJ⟩ : ∃ J, J = x % f.signWeight / f.binade := ⟨_, rfl⟩
      obtain ⟨I, hI⟩ : ∃ I, I = x % f.signWeight % f.binade := ⟨_, rfl⟩
      rw [← hJ] at g2 h3
      rw [← hI] at g1 h2
      exact ⟨by omega, by omega⟩
    · rw [if_neg c2] at h
      split at h <;> cases h
/-- Widened, it is the same number. -/
theorem wid_val {x : Nat} (h : isn single x) : isn double (wid x) ∧ V double (wid x) = V single x := by
  obtain ⟨s, m, i, h⟩ := h
  have h1 := read_low _ _ h
  obtain ⟨h2, h3⟩ := read_hi _ _ h
  rw [s4] at h1 h3
  rw [s2] at h2 h3
  rw [s3] at h3
  have hI : Is single x (if s then -(m : Int) else (m : Int)) i := ⟨s, m, i, h, by rw [s4]; exact h1, by rw [s4]; exact h1, rfl⟩
  have hi : i ≤ 200 := by
    have : (2139095040 / 8388608 : Nat) = 255 := by decide
    rw [this] at h3; omega
  have hz : (if s then -(m : Int) else (m : Int)).natAbs < 9007199254740992 := by
    cases s
    · simp only [Bool.false_eq_true, if_false]; omega
    · simp only [if_true]; omega
  obtain ⟨g, _⟩ := wid_is hI hz hi
  obtain ⟨g1, g2⟩ := is_val g
  obtain ⟨_, k2⟩ := is_val hI
  exact ⟨g1, by rw [g2, k2]⟩
theorem canon4 {x : Nat} (h : isn single x) : canon .f32 x = x := by
  obtain ⟨s, m, i, h⟩ := h
  refine canon_num ?_
  unfold isNan
  show (single.read x).isNaN = false
  rw [h]; rfl
/-- Made narrow: near. -/
theorem nar_val {x : Nat} (h : isn double x) {B : Rat} (h1 : V double x ≤ B) (h2 : -V double x ≤ B) (hB : B < P2 100) :
    ∃ w, fconv .f64 x .f32 = some w ∧ isn single w ∧ V single w - V double x ≤ B * eps single + tau single ∧ V double x - V single w ≤ B * eps single + tau single := by
  obtain ⟨s, m, i, h⟩ := h
  have e1 : V double x = val (.number s m i) := by unfold V; rw [h]
  obtain ⟨g1, g2, g3, _⟩ := write_er top4 s m i e1.symm h1 h2 hB
  refine ⟨single.nearest s m i, ?_, g1, g2, g3⟩
  have hd : FloatKind.f64.decode x = .number s m i := h
  have hi : (FloatKind.f32.decode (FloatKind.f32.encode (Datum.number s m i))).isInfinity = false := by
    obtain ⟨u, n, j, g⟩ := g1
    show (single.read (single.nearest s m i)).isInfinity = false
    rw [g]; rfl
  unfold fconv
  rw [if_neg (by decide), hd]
  simp only [hi, Bool.false_eq_true, if_false]
  congr 1
  exact canon4 g1
/-- The quotient's digits. -/
theorem quo_val {digits : Nat} {s t : Bool} {m n : Nat} {i j : Int} (hn : n ≠ 0) (hd : 1 ≤ digits) {q : Rat} (hq : q * val (.number t n j) = val (.number s m i)) :
    ∃ u k p, Datum.quotient digits (.number s m i) (.number t n j) = some (.number u k p) ∧
      (∀ B, q ≤ B → -q ≤ B → val (.number u k p) - q ≤ B * P2 (-(digits : Int)) ∧ q - val (.number u k p) ≤ B * P2 (-(digits : Int))) := by
  obtain ⟨more, hmo⟩ : ∃ more, more = digits + n.log2 - m.log2 := ⟨_, rfl⟩
  obtain ⟨a, ha⟩ : ∃ a, a = (m <<< more) / n := ⟨_, rfl⟩
  obtain ⟨r, hr⟩ : ∃ r, r = (m <<< more) % n := ⟨_, rfl⟩
  have hdm := Nat.div_add_mod (m <<< more) n
  rw [← ha, ← hr, Nat.shiftLeft_eq] at hdm
  have hrn : r < n := by rw [hr]; exact Nat.mod_lt _ (by omega)
  refine ⟨s ^^ t, 2 * a + (r != 0).toNat, i - j - more - 1, by simp only [Datum.quotient, if_neg hn, ← hmo, ← ha, ← hr], ?_⟩
  -- the value: (a + d/2) * G, the true one: (m 2^more / n) * G
  obtain ⟨G, hG⟩ : ∃ G, G = P2 (i - j - more) := ⟨_, rfl⟩
  have hGp : 0 < G := by rw [hG]; exact P2_pos _
  have hh : P2 (i - j - more - 1) * 2 = G := by rw [hG, P2_half (i - j - more)]; grind
  have hnp : 0 < (n : Rat) := Rat.natCast_pos.2 (by omega)
  have hdm' := congrArg (fun (t : Nat) => (t : Rat)) hdm
  simp only [Rat.natCast_add, Rat.natCast_mul] at hdm'
  rw [← P2_nat] at hdm'
  have hpi : P2 i = P2 (more : Int) * G * P2 j := by rw [hG, ← P2_add, ← P2_add]; congr 1; omega
  have hjp := P2_pos j
  have hmp := P2_pos (more : Int)
  -- size of q
  obtain ⟨sg, hsg, hsq⟩ : ∃ sg : Rat, (sg = 1 ∨ sg = -1) ∧ q * n = sg * ((m : Rat) * P2 (more : Int) * G) ∧ val (.number (s ^^ t) (2 * a + (r != 0).toNat) (i - j - more - 1)) = sg * (((2 * a + (r != 0).toNat : Nat) : Rat) * P2 (i - j - more - 1)) := by
    rw [val_num, val_num, hpi] at hq
    refine ⟨if (s ^^ t) then -1 else 1, by cases (s ^^ t) <;> simp, ?_, ?_⟩
    · have key : ∀ X Y : Rat, X * P2 j = Y * P2 j → X = Y := fun X Y h => by
        rcases Rat.mul_eq_zero.1 (show (X - Y) * P2 j = 0 by grind) with h | h
        · grind
        · grind
      apply key
      cases s <;> cases t <;> simp at hq ⊢ <;> grind
    · rw [val_num]
      cases (s ^^ t) <;> simp <;> grind
  obtain ⟨hq1, hv⟩ := hsq
  rw [hv]
  generalize val (.number (s ^^ t) (2 * a + (r != 0).toNat) (i - j - more - 1)) = W at *
  clear hv
  have h2a : ((2 * a + (r != 0).toNat : Nat) : Rat) * P2 (i - j - more - 1) = ((a : Rat) + (if r = 0 then 0 else 1 / 2)) * G := by
    rw [Rat.natCast_add, Rat.natCast_mul, ← hh]
    have t2 : ((2 : Nat) : Rat) = 2 := rfl
    by_cases c : r = 0
    · have : (r != 0).toNat = 0 := by rw [c]; rfl
      rw [this, if_pos c, t2]
      have : ((0 : Nat) : Rat) = 0 := rfl
      rw [this]; grind
    · have : (r != 0).toNat = 1 := by
        rw [show (r != 0) = true by simp [c]]; rfl
      rw [this, if_neg c, t2]
      have : ((1 : Nat) : Rat) = 1 := rfl
      rw [this]; grind
  rw [h2a]
  intro B hB1 hB2
  by_cases hm : m = 0
  · have ha0 : a = 0 := by rw [ha, hm]; simp
    have hr0 : r = 0 := by rw [hr, hm]; simp
    have hq0 : q = 0 := by
      rw [hm] at hq1
      have : ((0 : Nat) : Rat) = 0 := rfl
      rw [this] at hq1
      rcases Rat.mul_eq_zero.1 (show q * (n : Rat) = 0 by grind) with h | h
      · exact h
      · grind
    rw [ha0, if_pos hr0, hq0]
    have : ((0 : Nat) : Rat) = 0 := rfl
    rw [this]
    have := Rat.mul_nonneg (show 0 ≤ B by grind) (Rat.le_of_lt (P2_pos (-(digits : Int))))
    constructor <;> grind
  · -- a is large
    have hlo : n * 2 ^ digits ≤ 2 * (m * 2 ^ more) := by
      have h1 := pow_lt_log hn
      have h2 := Nat.log2_self_le hm
      have h3 : 2 ^ (n.log2 + 1) * 2 ^ digits ≤ 2 * (2 ^ m.log2 * 2 ^ more) := by
        rw [← Nat.pow_add, ← Nat.pow_add, ← Nat.pow_succ']
        exact Nat.pow_le_pow_right (by decide) (by omega)
      calc n * 2 ^ digits ≤ 2 ^ (n.log2 + 1) * 2 ^ digits := Nat.mul_le_mul_right _ (Nat.le_of_lt h1)
        _ ≤ 2 * (2 ^ m.log2 * 2 ^ more) := h3
        _ ≤ 2 * (m * 2 ^ more) := Nat.mul_le_mul_left _ (Nat.mul_le_mul_right _ h2)
    have hlo' := Rat.natCast_le_natCast.2 hlo
    simp only [Rat.natCast_mul] at hlo'
    rw [← P2_nat, ← P2_nat] at hlo'
    have t2 : ((2 : Nat) : Rat) = 2 := rfl
    rw [t2] at hlo'
    have hE : P2 (digits : Int) * P2 (-(digits : Int)) = 1 := by rw [← P2_add, show (digits : Int) + -(digits : Int) = 0 by omega, P2_zero]
    have hEp := P2_pos (-(digits : Int))
    generalize P2 (-(digits : Int)) = E at *
    generalize P2 (digits : Int) = D at *
    generalize P2 (more : Int) = M at *
    -- G ≤ 2 B E
    have hM0 : 0 ≤ (m : Rat) * M := Rat.mul_nonneg Rat.natCast_nonneg (Rat.le_of_lt hmp)
    have hqa : (m : Rat) * M * G ≤ B * n := by
      have g1 := Rat.mul_le_mul_of_nonneg_right hB1 (Rat.le_of_lt hnp)
      have g2 := Rat.mul_le_mul_of_nonneg_right hB2 (Rat.le_of_lt hnp)
      rcases hsg with h | h
      · rw [h] at hq1; grind
      · rw [h] at hq1; grind
    have hGE : G ≤ 2 * (B * E) := by
      have g1 := Rat.mul_le_mul_of_nonneg_right hlo' (Rat.le_of_lt (Rat.mul_pos hGp hEp))
      have g2 := Rat.mul_le_mul_of_nonneg_right hqa (Rat.le_of_lt hEp)
      have g3 : (n : Rat) * G ≤ (n : Rat) * (2 * (B * E)) := by
        have : (n : Rat) * D * (G * E) = (n : Rat) * G := by
          have : (n : Rat) * D * (G * E) = (n : Rat) * G * (D * E) := by grind
          rw [this, hE]; grind
        grind
      exact Rat.le_of_mul_le_mul_left g3 hnp
    -- the difference: at most G / 2
    have hr1 : (r : Rat) < n := Rat.natCast_lt_natCast.2 hrn
    have hr0 : 0 ≤ (r : Rat) := Rat.natCast_nonneg
    have key : ∀ X : Rat, X * n ≤ (G / 2) * n → X ≤ G / 2 := fun X h => Rat.le_of_mul_le_mul_right h hnp
    have hqn : q * n = sg * (((n : Rat) * a + r) * G) := by rw [hq1, ← hdm']
    have hrG : (r : Rat) * G ≤ n * G := Rat.mul_le_mul_of_nonneg_right (Rat.le_of_lt hr1) (Rat.le_of_lt hGp)
    have hrG0 : 0 ≤ (r : Rat) * G := Rat.mul_nonneg hr0 (Rat.le_of_lt hGp)
    have hnG : 0 < (n : Rat) * G := Rat.mul_pos hnp hGp
    by_cases c : r = 0
    · rw [if_pos c]
      have hr00 : (r : Rat) = 0 := by rw [c]; rfl
      rw [hr00] at hqn
      have k1 := key (sg * (((a : Rat) + 0) * G) - q) (by grind)
      have k2 := key (q - sg * (((a : Rat) + 0) * G)) (by grind)
      constructor <;> grind
    · rw [if_neg c]
      rcases hsg with h | h
      · rw [h] at hqn ⊢
        have k1 := key (1 * (((a : Rat) + 1 / 2) * G) - q) (by grind)
        have k2 := key (q - 1 * (((a : Rat) + 1 / 2) * G)) (by grind)
        constructor <;> grind
      · rw [h] at hqn ⊢
        have k1 := key (-1 * (((a : Rat) + 1 / 2) * G) - q) (by grind)
        have k2 := key (q - -1 * (((a : Rat) + 1 / 2) * G)) (by grind)
        constructor <;> grind
theorem div_er {f : Format} {T : Int} (hT : Top f T) {x y : Nat} (hx : isn f x) (hy : isn f y) (h0 : V f y ≠ 0) {q B : Rat} (hq : q * V f y = V f x) (h1 : q ≤ B) (h2 : -q ≤ B) (hB : 2 * B < P2 T) :
    ∃ w, f.div x y = some w ∧ isn f w ∧ V f w - q ≤ 2 * B * eps f + tau f ∧ q - V f w ≤ 2 * B * eps f + tau f := by
  obtain ⟨s, m, i, hx⟩ := hx
  obtain ⟨t, n, j, hy⟩ := hy
  have e1 : V f x = val (.number s m i) := by unfold V; rw [hx]
  have e2 : V f y = val (.number t n j) := by unfold V; rw [hy]
  rw [e1, e2] at hq
  have hn : n ≠ 0 := by
    rintro rfl
    rw [e2, val_num] at h0
    have : ((0 : Nat) : Rat) = 0 := rfl
    rw [this] at h0
    cases t <;> simp at h0 <;> grind
  obtain ⟨u, k, p, g1, g2⟩ := quo_val (digits := f.fractionBits + 2) hn (by omega) hq
  obtain ⟨g3, g4⟩ := g2 B h1 h2
  have he : P2 (-((f.fractionBits + 2 : Nat) : Int)) * 2 = eps f := by
    unfold eps
    rw [P2_half (-(f.fractionBits : Int) - 1)]
    have : -(f.fractionBits : Int) - 1 - 1 = -((f.fractionBits + 2 : Nat) : Int) := by omega
    rw [this]; grind
  have hep := P2_pos (-((f.fractionBits + 2 : Nat) : Int))
  have heps : eps f ≤ 1 / 2 := by
    have h1 : eps f ≤ P2 (-1) := P2_le (by omega)
    have h2 : P2 (-1) * 2 = 1 := by
      have := P2_half 0
      rw [P2_zero] at this
      rw [show (0 : Int) - 1 = -1 by omega] at this; grind
    grind
  have hB0 : 0 ≤ B := by grind
  have hBe := Rat.mul_nonneg hB0 (Rat.le_of_lt hep)
  have hBe2 : B * P2 (-((f.fractionBits + 2 : Nat) : Int)) ≤ B / 4 := by
    have := Rat.mul_le_mul_of_nonneg_left (show P2 (-((f.fractionBits + 2 : Nat) : Int)) ≤ 1 / 4 by grind) hB0
    grind
  generalize P2 (-((f.fractionBits + 2 : Nat) : Int)) = e at *
  obtain ⟨g5, g6, g7, _⟩ := write_er hT u k p rfl (B := B + B * e) (by grind) (by grind) (by grind)
  have hz : B * e * eps f ≤ B * e / 2 := by
    have := Rat.mul_le_mul_of_nonneg_left heps hBe
    grind
  refine ⟨f.nearest u k p, ?_, g5, ?_, ?_⟩
  · unfold Format.div
    rw [hx, hy, g1]; rfl
  · have : (B + B * e) * eps f = B * eps f + B * e * eps f := by grind
    rw [this] at g6
    have h4 : 2 * B * eps f = B * eps f + B * e + B * e := by rw [← he]; grind
    grind
  · have : (B + B * e) * eps f = B * eps f + B * e * eps f := by grind
    rw [this] at g7
    have h4 : 2 * B * eps f = B * eps f + B * e + B * e := by rw [← he]; grind
    grind
theorem root_hi (n : Nat) : ∀ (todo root : Nat), n < (root + 2 ^ todo) * (root + 2 ^ todo) → n < (Datum.rootFrom n todo root + 1) * (Datum.rootFrom n todo root + 1)
  | 0, root, h => by simpa [Datum.rootFrom] using h
  | todo + 1, root, h => by
    unfold Datum.rootFrom
    dsimp only
    rw [Nat.one_shiftLeft]
    by_cases c : (root + 2 ^ todo) * (root + 2 ^ todo) ≤ n
    · rw [if_pos c]
      refine root_hi n todo _ ?_
      have : root + 2 ^ todo + 2 ^ todo = root + 2 ^ (todo + 1) := by rw [Nat.pow_succ]; omega
      rw [this]; exact h
    · rw [if_neg c]
      exact root_hi n todo _ (by omega)
theorem root_both (n : Nat) : ∃ r, r = Datum.rootFrom n (n.log2 / 2 + 1) 0 ∧ r * r ≤ n ∧ n < (r + 1) * (r + 1) := by
  refine ⟨_, rfl, rootFrom_le n _ 0 (by simp), root_hi n _ 0 ?_⟩
  rw [Nat.zero_add, ← Nat.pow_add]
  have h1 : n < 2 ^ (n.log2 + 1) := by
    by_cases h0 : n = 0
    · rw [h0]; exact Nat.two_pow_pos _
    · exact pow_lt_log h0
  exact Nat.lt_of_lt_of_le h1 (Nat.pow_le_pow_right (by decide) (by omega))
theorem half_nn : (0 : Rat) ≤ 1 / 2 := by grind
/-- The root's digits. -/
theorem rt_val {digits : Nat} {s : Bool} {m : Nat} {i : Int} (hd : 2 ≤ digits) (h0 : 0 < val (.number s m i)) :
    ∃ k p, Datum.root digits (.number s m i) = some (.number false k p) ∧ 0 ≤ val (.number false k p) ∧
      val (.number false k p) * val (.number false k p) - val (.number s m i) ≤ val (.number s m i) * P2 (1 - (digits : Int)) ∧ val (.number s m i) - val (.number false k p) * val (.number false k p) ≤ val (.number s m i) * P2 (1 - (digits : Int)) := by
  have hs : s = false := by
    cases s
    · rfl
    · rw [val_num] at h0
      have := mag_pos m i
      simp only [if_true] at h0; grind
  subst hs
  have hm : m ≠ 0 := by
    rintro rfl
    rw [val_num] at h0
    have : ((0 : Nat) : Rat) = 0 := rfl
    rw [this] at h0
    simp at h0
  obtain ⟨mo, hmo⟩ : ∃ mo, mo = 2 * digits - m.log2 + ((i - ((2 * digits - m.log2 : Nat) : Int)) % 2).toNat := ⟨_, rfl⟩
  have hlo : 2 * digits ≤ m.log2 + mo := by omega
  have hev : (i - (mo : Int)) % 2 = 0 := by omega
  obtain ⟨n, hn⟩ : ∃ n, n = m <<< mo := ⟨_, rfl⟩
  obtain ⟨r, hr, r1, r2⟩ := root_both n
  refine ⟨2 * r + (r * r != n).toNat, (i - mo) / 2 - 1, ?_, ?_⟩
  · unfold Datum.root
    dsimp only
    rw [if_neg hm, if_neg (by decide), ← hmo, ← hn, ← hr]
  have hnb : 2 ^ (2 * digits) ≤ n := by
    have h1 := Nat.log2_self_le hm
    have h2 : 2 ^ (2 * digits) ≤ 2 ^ (m.log2 + mo) := Nat.pow_le_pow_right (by decide) hlo
    rw [Nat.pow_add] at h2
    have h3 := Nat.mul_le_mul_right (2 ^ mo) h1
    rw [hn, Nat.shiftLeft_eq]; omega
  obtain ⟨h, hh⟩ : ∃ h, h = (i - (mo : Int)) / 2 := ⟨_, rfl⟩
  have hi : i = mo + h + h := by omega
  have hnm : (n : Rat) = (m : Rat) * P2 (mo : Int) := by rw [hn, Nat.shiftLeft_eq, Rat.natCast_mul, ← P2_nat]
  have hp := P2_pos h
  have hph : P2 (h - 1) * 2 = P2 h := by rw [P2_half h]; grind
  rw [← hh, val_num, val_num]
  simp only [Bool.false_eq_true, if_false]
  have hv : (m : Rat) * P2 i = (n : Rat) * (P2 h * P2 h) := by rw [hnm, hi, P2_add, P2_add]; grind
  obtain ⟨d, hd1, hd2⟩ : ∃ d : Rat, ((2 * r + (r * r != n).toNat : Nat) : Rat) * P2 (h - 1) = (r + d) * P2 h ∧ ((d = 0 ∧ r * r = n) ∨ d = 1 / 2) := by
    have t2 : ((2 : Nat) : Rat) = 2 := rfl
    by_cases c : r * r = n
    · refine ⟨0, ?_, Or.inl ⟨rfl, c⟩⟩
      have : (r * r != n).toNat = 0 := by rw [c]; simp
      rw [this, Nat.add_zero, Rat.natCast_mul, t2]; grind
    · refine ⟨1 / 2, ?_, Or.inr rfl⟩
      have : (r * r != n).toNat = 1 := by rw [show (r * r != n) = true by simp [c]]; rfl
      rw [this, Rat.natCast_add, Rat.natCast_mul, t2]
      have : ((1 : Nat) : Rat) = 1 := rfl
      rw [this]; grind
  rw [hd1, hv]
  have hr0 : 0 ≤ (r : Rat) := Rat.natCast_nonneg
  have hd0 : 0 ≤ d := by
    rcases hd2 with ⟨h, _⟩ | h
    · rw [h]; exact Rat.le_refl
    · rw [h]; exact half_nn
  clear hmo hlo hev hh hr hn hi
  refine ⟨Rat.mul_nonneg (Rat.add_nonneg hr0 hd0) (Rat.le_of_lt hp), ?_⟩
  -- r is large: r + 1 ≤ n * 2^(1 - digits)
  have hE : P2 (digits : Int) * P2 (1 - (digits : Int)) = 2 := by rw [← P2_add, show (digits : Int) + (1 - digits) = 1 by omega]; exact Rat.zpow_one 2
  have hEp := P2_pos (1 - (digits : Int))
  have hDp := P2_pos (digits : Int)
  have hrb : 2 ^ digits < r + 1 := by
    rcases Nat.lt_or_ge (2 ^ digits) (r + 1) with h | h
    · exact h
    · have := Nat.mul_le_mul h h
      rw [← Nat.pow_add, show digits + digits = 2 * digits by omega] at this
      omega
  have hrr : P2 (digits : Int) ≤ r := by rw [P2_nat]; exact Rat.natCast_le_natCast.2 (by omega)
  have h4 : (4 : Rat) ≤ P2 (digits : Int) := by
    rw [P2_nat]
    have : 2 ^ 2 ≤ 2 ^ digits := Nat.pow_le_pow_right (by decide) hd
    exact Rat.natCast_le_natCast.2 (show 4 ≤ 2 ^ digits by omega)
  have n1 := Rat.natCast_le_natCast.2 r1
  have n2 := Rat.natCast_lt_natCast.2 r2
  simp only [Rat.natCast_mul, Rat.natCast_add] at n1 n2
  have o1 : ((1 : Nat) : Rat) = 1 := rfl
  rw [o1] at n2
  generalize P2 (digits : Int) = D at *
  generalize P2 (1 - (digits : Int)) = E at *
  clear hnb hrb r1 r2 hm hph hd1 hnm hv h0
  have hrE : (r : Rat) + (r : Rat) ≤ (n : Rat) * E := by
    have g1 := Rat.mul_le_mul_of_nonneg_right hrr (Rat.le_of_lt hEp)
    have g2 : 0 ≤ (r : Rat) * E := Rat.mul_nonneg hr0 (Rat.le_of_lt hEp)
    rw [hE] at g1
    have g3 := Rat.mul_le_mul_of_nonneg_left g1 hr0
    have g4 := Rat.mul_le_mul_of_nonneg_right n1 (Rat.le_of_lt hEp)
    grind
  have hQ : 0 < P2 h * P2 h := Rat.mul_pos hp hp
  have hnE : 0 ≤ (n : Rat) * E := Rat.mul_nonneg Rat.natCast_nonneg (Rat.le_of_lt hEp)
  have e1 : ((r : Rat) + d) * P2 h * (((r : Rat) + d) * P2 h) = (((r : Rat) + d) * ((r : Rat) + d)) * (P2 h * P2 h) := by grind
  have e2 : (n : Rat) * (P2 h * P2 h) * E = ((n : Rat) * E) * (P2 h * P2 h) := by grind
  rw [e1, e2]
  generalize P2 h * P2 h = Q at *
  have fin : ∀ X Y : Rat, X - Y ≤ (n : Rat) * E → X * Q - Y * Q ≤ ((n : Rat) * E) * Q := fun X Y h => by
    have := Rat.mul_le_mul_of_nonneg_right h (Rat.le_of_lt hQ); grind
  rcases hd2 with ⟨hz, hsq⟩ | hz
  · rw [hz]
    have hsq' : (r : Rat) * r = n := by rw [← Rat.natCast_mul, hsq]
    exact ⟨fin _ _ (by grind), fin _ _ (by grind)⟩
  · rw [hz]
    exact ⟨fin _ _ (by grind), fin _ _ (by grind)⟩
/-- The root: near a number whose square is near. -/
theorem sqrt_er {f : Format} {T : Int} (hT : Top f T) (hb : 2 ≤ f.fractionBits) {x : Nat} (hx : isn f x) (h0 : 0 < V f x) {B : Rat} (hB : ∀ d : Rat, 0 ≤ d → d * d ≤ V f x + V f x * P2 (-1 - (f.fractionBits : Int)) → d ≤ B) (hBT : B < P2 T) :
    ∃ w d, f.sqrt x = some w ∧ isn f w ∧ 0 ≤ d ∧ d ≤ B ∧ d * d - V f x ≤ V f x * P2 (-1 - (f.fractionBits : Int)) ∧ V f x - d * d ≤ V f x * P2 (-1 - (f.fractionBits : Int)) ∧ V f w - d ≤ B * eps f + tau f ∧ d - V f w ≤ B * eps f + tau f := by
  obtain ⟨s, m, i, hx⟩ := hx
  have e1 : V f x = val (.number s m i) := by unfold V; rw [hx]
  rw [e1] at h0 hB ⊢
  obtain ⟨k, p, g1, g2, g3, g4⟩ := rt_val (digits := f.fractionBits + 2) (by omega) h0
  have e2 : 1 - ((f.fractionBits + 2 : Nat) : Int) = -1 - (f.fractionBits : Int) := by omega
  rw [e2] at g3 g4
  have hd := hB _ g2 (by grind)
  obtain ⟨g5, g6, g7, _⟩ := write_er hT false k p rfl (B := B) hd (by grind) hBT
  refine ⟨f.nearest false k p, _, ?_, g5, g2, hd, g3, g4, g6, g7⟩
  unfold Format.sqrt
  rw [hx, g1]; rfl
/-- The operations of doubles. -/
def N8 (x : Nat) : Prop := isn double x
abbrev V8 (x : Nat) : Rat := V double x
def E8 : Rat := eps double
def T8 : Rat := tau double
theorem fadd_er {x y : Nat} (hx : N8 x) (hy : N8 y) {B : Rat} (h1 : V8 x + V8 y ≤ B) (h2 : -(V8 x + V8 y) ≤ B) (hB : B < P2 1000) : N8 (fadd .f64 x y) ∧ V8 (fadd .f64 x y) - (V8 x + V8 y) ≤ B * E8 ∧ (V8 x + V8 y) - V8 (fadd .f64 x y) ≤ B * E8 := by
  obtain ⟨w, g1, g2, g3, g4⟩ := add_er top8 hx hy h1 h2 hB
  have e : fadd .f64 x y = w := by
    show fres .f64 (double.add x y) = _
    rw [g1]; exact canon8 g2
  rw [e]; exact ⟨g2, g3, g4⟩
theorem fsub_er {x y : Nat} (hx : N8 x) (hy : N8 y) {B : Rat} (h1 : V8 x - V8 y ≤ B) (h2 : -(V8 x - V8 y) ≤ B) (hB : B < P2 1000) : N8 (fsub .f64 x y) ∧ V8 (fsub .f64 x y) - (V8 x - V8 y) ≤ B * E8 ∧ (V8 x - V8 y) - V8 (fsub .f64 x y) ≤ B * E8 := by
  obtain ⟨w, g1, g2, g3, g4⟩ := sub_er top8 hx hy h1 h2 hB
  have e : fsub .f64 x y = w := by
    show fres .f64 (double.sub x y) = _
    rw [g1]; exact canon8 g2
  rw [e]; exact ⟨g2, g3, g4⟩
theorem fmul_er {x y : Nat} (hx : N8 x) (hy : N8 y) {B : Rat} (h1 : V8 x * V8 y ≤ B) (h2 : -(V8 x * V8 y) ≤ B) (hB : B < P2 1000) : N8 (fmul .f64 x y) ∧ V8 (fmul .f64 x y) - V8 x * V8 y ≤ B * E8 + T8 ∧ V8 x * V8 y - V8 (fmul .f64 x y) ≤ B * E8 + T8 := by
  obtain ⟨w, g1, g2, g3, g4⟩ := mul_er top8 hx hy h1 h2 hB
  have e : fmul .f64 x y = w := by
    show fres .f64 (double.mul x y) = _
    rw [g1]; exact canon8 g2
  rw [e]; exact ⟨g2, g3, g4⟩
theorem fless_val {x y : Nat} (hx : N8 x) (hy : N8 y) : fless .f64 x y = decide (V8 x < V8 y) := by
  show (double.order x y == some .lt) = _
  rw [order_val hx hy]
  by_cases c : V double x < V double y
  · rw [if_pos c, decide_eq_true c]; rfl
  · rw [if_neg c, decide_eq_false c]; split <;> rfl
theorem fgrt_val {x y : Nat} (hx : N8 x) (hy : N8 y) : fgrt .f64 x y = decide (V8 y < V8 x) := by
  show (double.order x y == some .gt) = _
  rw [order_val hx hy]
  by_cases c : V double x < V double y
  · rw [if_pos c, decide_eq_false (by grind)]; rfl
  · rw [if_neg c]
    by_cases c2 : V double x = V double y
    · rw [if_pos c2, decide_eq_false (by grind)]; rfl
    · rw [if_neg c2, decide_eq_true (by grind)]; rfl
theorem E8_val : E8 = 1 / 9007199254740992 := by
  have h : E8 * P2 53 = 1 := by
    unfold E8 eps
    rw [← P2_add, show -((double.fractionBits : Nat) : Int) - 1 + 53 = 0 from rfl, P2_zero]
  have h2 : P2 53 = 9007199254740992 := by
    rw [show (53 : Int) = ((53 : Nat) : Int) from rfl, P2_nat]; rfl
  rw [h2] at h
  grind
theorem T8_le : T8 ≤ E8 * E8 * E8 * E8 := by
  unfold T8 E8 tau eps
  rw [← P2_add, ← P2_add, ← P2_add, t4]
  exact P2_le (by decide)
theorem T8_pos : 0 < T8 := tau_pos _
/-- A whole number as a double: exact where it is small. -/
theorem W8_val {z p : Int} (hz : z.natAbs < 9007199254740992) (h0 : -1074 ≤ p) (h1 : p ≤ 900) : N8 (W8 z p) ∧ V8 (W8 z p) = (z : Rat) * P2 p := is_val (W8_isp hz h0 h1).is
theorem P2_inv {p : Int} {n : Nat} (h : p = -(n : Int)) : P2 p * ((2 ^ n : Nat) : Rat) = 1 := by
  rw [← P2_nat, ← P2_add, show p + (n : Int) = 0 by omega, P2_zero]
/-- The word of a positive constant. -/
theorem const_val {x m n : Nat} (h : double.read x = .number false m (-(n : Int))) : N8 x ∧ V8 x * ((2 ^ n : Nat) : Rat) = (m : Rat) := by
  refine ⟨⟨_, _, _, h⟩, ?_⟩
  have : V8 x = (m : Rat) * P2 (-(n : Int)) := by show val (double.read x) = _; rw [h]; rfl
  rw [this, Rat.mul_assoc, P2_inv rfl]; grind
theorem k001 : N8 4562254508917369340 ∧ (9 / 10000 : Rat) ≤ V8 4562254508917369340 ∧ V8 4562254508917369340 ≤ 11 / 10000 := by
  obtain ⟨h1, h2⟩ := const_val (x := 4562254508917369340) (m := 4611686018427388) (n := 62) (by kernel_rfl)
  have e1 : ((2 ^ 62 : Nat) : Rat) = 4611686018427387904 := rfl
  have e2 : ((4611686018427388 : Nat) : Rat) = 4611686018427388 := rfl
  rw [e1, e2] at h2
  generalize V8 4562254508917369340 = v at *
  exact ⟨h1, by grind, by grind⟩
theorem k01 : N8 4576918229304087675 ∧ (9 / 1000 : Rat) ≤ V8 4576918229304087675 ∧ V8 4576918229304087675 ≤ 11 / 1000 := by
  obtain ⟨h1, h2⟩ := const_val (x := 4576918229304087675) (m := 5764607523034235) (n := 59) (by kernel_rfl)
  have e1 : ((2 ^ 59 : Nat) : Rat) = 576460752303423488 := rfl
  have e2 : ((5764607523034235 : Nat) : Rat) = 5764607523034235 := rfl
  rw [e1, e2] at h2
  generalize V8 4576918229304087675 = v at *
  exact ⟨h1, by grind, by grind⟩
theorem k5 : N8 4617315517961601024 ∧ V8 4617315517961601024 = 5 := by
  obtain ⟨h1, h2⟩ := const_val (x := 4617315517961601024) (m := 5629499534213120) (n := 50) (by kernel_rfl)
  have e1 : ((2 ^ 50 : Nat) : Rat) = 1125899906842624 := rfl
  have e2 : ((5629499534213120 : Nat) : Rat) = 5629499534213120 := rfl
  rw [e1, e2] at h2
  generalize V8 4617315517961601024 = v at *
  exact ⟨h1, by grind⟩
theorem big_P2 : (1000000 : Rat) < P2 100 ∧ P2 100 ≤ P2 1000 := by
  refine ⟨?_, P2_le (by decide)⟩
  rw [show (100 : Int) = ((100 : Nat) : Int) from rfl, P2_nat]
  have : ((2 ^ 100 : Nat) : Rat) = 1267650600228229401496703205376 := rfl
  rw [this]; grind
theorem qV8 {z : Nat} (h : z ≤ 100000) : N8 (W8 (z : Int) (-2)) ∧ 4 * V8 (W8 (z : Int) (-2)) = (z : Rat) := by
  obtain ⟨h1, h2⟩ := W8_val (z := (z : Int)) (p := -2) (by omega) (by omega) (by omega)
  have := P2_inv (p := -2) (n := 2) rfl
  have e : ((2 ^ 2 : Nat) : Rat) = 4 := rfl
  rw [e] at this
  rw [Rat.intCast_natCast] at h2
  exact ⟨h1, by rw [h2]; grind⟩
theorem sV8 {z : Nat} (h : z ≤ 100000) : N8 (W8 (z : Int) (-4)) ∧ 16 * V8 (W8 (z : Int) (-4)) = (z : Rat) := by
  obtain ⟨h1, h2⟩ := W8_val (z := (z : Int)) (p := -4) (by omega) (by omega) (by omega)
  have := P2_inv (p := -4) (n := 4) rfl
  have e : ((2 ^ 4 : Nat) : Rat) = 16 := rfl
  rw [e] at this
  rw [Rat.intCast_natCast] at h2
  exact ⟨h1, by rw [h2]; grind⟩
theorem fofint_tab : ((List.range 6).all fun m => Nat.beq (fofint .f64 (m : Int)) (W8 (m : Int) 0)) = true := by kernel_rfl
theorem of8 {m : Nat} (h : m < 6) : N8 (fofint .f64 (m : Int)) ∧ V8 (fofint .f64 (m : Int)) = (m : Rat) := by
  have := List.all_eq_true.1 fofint_tab m (List.mem_range.2 h)
  rw [Nat.eq_of_beq_eq_true this]
  obtain ⟨h1, h2⟩ := W8_val (z := (m : Int)) (p := 0) (by omega) (by omega) (by omega)
  rw [P2_zero, Rat.intCast_natCast] at h2
  exact ⟨h1, by rw [h2]; grind⟩
theorem eps4_val : eps single = 1 / 16777216 := by
  have h : eps single * P2 24 = 1 := by
    unfold eps
    rw [← P2_add, show -((single.fractionBits : Nat) : Int) - 1 + 24 = 0 from rfl, P2_zero]
  have h2 : P2 24 = 16777216 := by
    rw [show (24 : Int) = ((24 : Nat) : Int) from rfl, P2_nat]; rfl
  rw [h2] at h
  grind
theorem tau4_le : tau single ≤ eps single := by
  unfold tau eps
  rw [s4]
  exact P2_le (by decide)
theorem E8_lin : 0 < E8 ∧ 9007199254740992 * E8 ≤ 1 := by
  have h := E8_val
  exact ⟨eps_pos _, by grind⟩
theorem e4_lin : 0 < eps single ∧ 16777216 * eps single ≤ 1 ∧ tau single ≤ eps single := by
  have h := eps4_val
  have := tau4_le
  exact ⟨eps_pos _, by grind, this⟩
theorem T8_small : T8 ≤ E8 := by
  have h := T8_le
  have e := E8_val
  rw [e] at h ⊢
  grind
theorem nat_rat {a b : Nat} (h : a ≤ b) : (a : Rat) ≤ (b : Rat) := Rat.natCast_le_natCast.2 h
/-- A product and a little more. -/
theorem prod_up2 {x y : Nat} (hx : N8 x) (hy : N8 y) {b : Rat} (h2 : V8 y = b) (h0 : -1 ≤ V8 x * b) (hB : V8 x * b ≤ 10000) {c : Nat} (hc : N8 c) (c0 : 0 ≤ V8 c) (c1 : V8 c ≤ 1) :
    N8 (fadd .f64 (fmul .f64 x y) c) ∧ V8 x * b + V8 c - 1 / 100000 ≤ V8 (fadd .f64 (fmul .f64 x y) c) := by
  obtain ⟨p1, p2⟩ := big_P2
  obtain ⟨hE0, hE⟩ := E8_lin
  have hT := T8_small
  subst h2
  obtain ⟨g1, g2, g3⟩ := fmul_er hx hy (B := 10000) hB (by grind) (by grind)
  obtain ⟨k1, k2, k3⟩ := fadd_er g1 hc (B := 10002) (by grind) (by grind) (by grind)
  exact ⟨k1, by grind⟩
theorem prod_up {x y : Nat} (hx : N8 x) (hy : N8 y) {a b : Rat} (h1 : V8 x = a) (h2 : V8 y = b) (h0 : 0 ≤ a * b) (hB : a * b ≤ 10000) {c : Nat} (hc : N8 c) (c0 : 0 ≤ V8 c) (c1 : V8 c ≤ 1) :
    N8 (fadd .f64 (fmul .f64 x y) c) ∧ a * b + V8 c - 1 / 100000 ≤ V8 (fadd .f64 (fmul .f64 x y) c) := by
  subst h1
  exact prod_up2 hx hy h2 (by grind) hB hc c0 c1
theorem lawA {R Z D : Nat} (hR : R ≤ 80) (hZ : Z ≤ 80) (hD : D ≤ R * Z) : fgrt .f64 (W8 (D : Int) (-4)) (fadd .f64 (fmul .f64 (W8 (R : Int) (-2)) (W8 (Z : Int) (-2))) 4562254508917369340) = false := by
  have hRZ : R * Z ≤ 80 * 80 := Nat.mul_le_mul hR hZ
  obtain ⟨r1, r2⟩ := qV8 (z := R) (by omega)
  obtain ⟨z1, z2⟩ := qV8 (z := Z) (by omega)
  obtain ⟨d1, d2⟩ := sV8 (z := D) (by omega)
  obtain ⟨k1, k2, k3⟩ := k001
  have n1 := nat_rat hRZ
  have n2 := nat_rat hD
  simp only [Rat.natCast_mul] at n1 n2
  have n0 : 0 ≤ (R : Rat) * Z := Rat.mul_nonneg Rat.natCast_nonneg Rat.natCast_nonneg
  have e80 : ((80 : Nat) : Rat) = 80 := rfl
  rw [e80] at n1
  rw [← r2, ← z2] at n0 n1 n2
  rw [← d2] at n2
  obtain ⟨g1, g2⟩ := prod_up r1 z1 rfl rfl (by grind) (by grind) k1 (by grind) (by grind)
  rw [fgrt_val d1 g1]
  refine decide_eq_false ?_
  grind
theorem lawB {R M m : Nat} (hM : M ≤ 16) (hm : m < 6) (hR : R ≤ M * m) : fgrt .f64 (W8 (R : Int) (-2)) (fadd .f64 (fmul .f64 (W8 (M : Int) (-2)) (fofint .f64 (m : Int))) 4562254508917369340) = false := by
  have hRZ : M * m ≤ 16 * 6 := Nat.mul_le_mul hM (by omega)
  obtain ⟨r1, r2⟩ := qV8 (z := R) (by omega)
  obtain ⟨z1, z2⟩ := qV8 (z := M) (by omega)
  obtain ⟨d1, d2⟩ := of8 hm
  obtain ⟨k1, k2, k3⟩ := k001
  have n1 := nat_rat hRZ
  have n2 := nat_rat hR
  simp only [Rat.natCast_mul] at n1 n2
  have n0 : 0 ≤ (M : Rat) * m := Rat.mul_nonneg Rat.natCast_nonneg Rat.natCast_nonneg
  have e80 : ((16 : Nat) : Rat) = 16 := rfl
  have e6 : ((6 : Nat) : Rat) = 6 := rfl
  rw [e80, e6] at n1
  rw [← d2, ← z2] at n0 n1 n2
  rw [← r2] at n2
  obtain ⟨g1, g2⟩ := prod_up z1 d1 rfl rfl (by grind) (by grind) k1 (by grind) (by grind)
  rw [fgrt_val r1 g1]
  refine decide_eq_false ?_
  grind
theorem sq_nonneg' (a : Rat) : 0 ≤ a * a := by
  rcases Rat.le_total (a := 0) (b := a) with h | h
  · exact Rat.mul_nonneg h h
  · have := Rat.mul_nonneg (show 0 ≤ -a by grind) (show 0 ≤ -a by grind); grind
/-- Squares grow. -/
theorem sq_mono {a b : Rat} (h0 : 0 ≤ a) (h : a ≤ b) : a * a ≤ b * b := by
  have h1 := Rat.mul_le_mul_of_nonneg_left h h0
  have h2 := Rat.mul_le_mul_of_nonneg_right h (show 0 ≤ b by grind)
  grind
theorem root_zero : fconv .f64 (fsqrt 0) .f32 = some 0 := by kernel_rfl
/-- The root of a sum of squares. -/
theorem root_ok {S : Nat} (hS : S ≤ 6400) : ∃ w d, fconv .f64 (fsqrt (W8 (S : Int) (-4))) .f32 = some w ∧ isn single w ∧ 0 ≤ d ∧ d ≤ 21 ∧ 16 * (d * d) - (S : Rat) ≤ 1 / 1000000000 ∧ (S : Rat) - 16 * (d * d) ≤ 1 / 1000000000 ∧ V single w - d ≤ 1 / 500000 ∧ d - V single w ≤ 1 / 500000 := by
  obtain ⟨p1, p2⟩ := big_P2
  by_cases h0 : S = 0
  · subst h0
    have hr : single.read 0 = .number false 0 (-149) := by kernel_rfl
    refine ⟨0, 0, ?_, ⟨false, 0, -149, hr⟩, ?_⟩
    · have : ((0 : Nat) : Int) = 0 := rfl
      rw [this, W8_zero]; exact root_zero
    · have hv : V single 0 = 0 := by
        unfold V; rw [hr, val_num]
        have : ((0 : Nat) : Rat) = 0 := rfl
        rw [this]; simp
      have : ((0 : Nat) : Rat) = 0 := rfl
      rw [hv, this]
      refine ⟨?_, ?_, ?_, ?_, ?_, ?_⟩ <;> grind
  obtain ⟨s1, s2⟩ := sV8 (z := S) (by omega)
  have hS' := nat_rat hS
  have e64 : ((6400 : Nat) : Rat) = 6400 := rfl
  rw [e64] at hS'
  have hpos : 0 < (S : Rat) := Rat.natCast_pos.2 (by omega)
  obtain ⟨hE0, hE⟩ := E8_lin
  have hT := T8_small
  have hPE : P2 (-1 - (double.fractionBits : Int)) = E8 := by unfold E8 eps; congr 1
  have s2 : 16 * V double (W8 (S : Int) (-4)) = (S : Rat) := s2
  have s1 : isn double (W8 (S : Int) (-4)) := s1
  rw [← s2] at hS' hpos ⊢
  generalize W8 (S : Int) (-4) = x at *
  have hvE : V double x * E8 ≤ 400 * E8 := Rat.mul_le_mul_of_nonneg_right (by grind) (Rat.le_of_lt hE0)
  obtain ⟨w, d, g1, g2, g3, g4, g5, g6, g7, g8⟩ := sqrt_er top8 (by decide) s1 (by grind) (B := 21) (fun d hd h => by
    rw [hPE] at h
    rcases Rat.le_total (a := d) (b := 21) with h' | h'
    · exact h'
    · have := sq_mono (show (0 : Rat) ≤ 21 by grind) h'
      grind) (by grind)
  rw [hPE] at g5 g6
  have e8 : eps double = E8 := rfl
  have t8 : tau double = T8 := rfl
  rw [e8, t8] at g7 g8
  have ew : fsqrt x = w := by
    show fres .f64 (double.sqrt _) = _
    rw [g1]; exact canon8 g2
  rw [ew]
  obtain ⟨u, k1, k2, k3, k4⟩ := nar_val g2 (B := 22) (by grind) (by grind) (by grind)
  obtain ⟨q1, q2, q3⟩ := e4_lin
  exact ⟨u, d, k1, k2, g3, g4, by grind, by grind, by grind, by grind⟩
theorem lawC {S M w : Nat} {d : Rat} (hw : isn single w) (d0 : 0 ≤ d) (d1 : (S : Rat) - 16 * (d * d) ≤ 1 / 1000000000) (d2 : d - V single w ≤ 1 / 500000) (hM : M ≤ 16) (hS : M * M ≤ S) : fless .f64 (wid w) (fsub .f64 (W8 (M : Int) (-2)) 4562254508917369340) = false := by
  obtain ⟨p1, p2⟩ := big_P2
  obtain ⟨k1, k2, k3⟩ := k001
  obtain ⟨m1, m2⟩ := qV8 (z := M) (by omega)
  have hM' := nat_rat hM
  have hS' := nat_rat hS
  rw [Rat.natCast_mul] at hS'
  have e16 : ((16 : Nat) : Rat) = 16 := rfl
  rw [e16] at hM'
  have hM0 : 0 ≤ (M : Rat) := Rat.natCast_nonneg
  obtain ⟨hE0, hE⟩ := E8_lin
  have hM1 : M = 0 ∨ 1 ≤ (M : Rat) := by
    rcases Nat.eq_zero_or_pos M with h | h
    · exact Or.inl h
    · exact Or.inr (nat_rat h)
  have hMz : M = 0 → (M : Rat) = 0 := fun h => by rw [h]; rfl
  rw [← m2] at hM' hS' hM0 hM1 hMz
  obtain ⟨g1, g2, g3⟩ := fsub_er m1 k1 (B := 5) (by grind) (by grind) (by grind)
  obtain ⟨w1, w2⟩ := wid_val hw
  rw [fless_val w1 g1]
  refine decide_eq_false ?_
  have w2 : V8 (wid w) = V single w := w2
  rw [w2]
  intro h
  have hd : d ≤ V8 (W8 (M : Int) (-2)) - 1 / 10000 := by grind
  have hsq := sq_mono d0 hd
  rcases hM1 with hz | hz
  · have := hMz hz
    grind
  · clear g1 g2 g3 w1 w2 h d2 p1 p2 k1 k2 k3 hMz hS hE hE0 hw
    generalize V8 (W8 (M : Int) (-2)) = x at *
    grind
theorem lawD {S R C w : Nat} {d : Rat} (hw : isn single w) (d0 : 0 ≤ d) (d3 : d ≤ 21) (d1 : 16 * (d * d) - (S : Rat) ≤ 1 / 1000000000) (d2 : V single w - d ≤ 1 / 500000) (d4 : d - V single w ≤ 1 / 500000) (hR : R ≤ 80) (hC : C ≤ 80) (hS : S ≤ R * C * 5) :
    fgrt .f64 (fmul .f64 (wid w) (wid w)) (fadd .f64 (fmul .f64 (fmul .f64 (W8 (R : Int) (-2)) (W8 (C : Int) (-2))) 4617315517961601024) 4576918229304087675) = false := by
  obtain ⟨p1, p2⟩ := big_P2
  obtain ⟨k1, k2, k3⟩ := k01
  obtain ⟨f1, f2⟩ := k5
  obtain ⟨r1, r2⟩ := qV8 (z := R) (by omega)
  obtain ⟨c1, c2⟩ := qV8 (z := C) (by omega)
  have hRC : R * C ≤ 80 * 80 := Nat.mul_le_mul hR hC
  have n1 := nat_rat hRC
  have n2 := nat_rat hS
  simp only [Rat.natCast_mul] at n1 n2
  have n0 : 0 ≤ (R : Rat) * C := Rat.mul_nonneg Rat.natCast_nonneg Rat.natCast_nonneg
  have e80 : ((80 : Nat) : Rat) = 80 := rfl
  have e5 : ((5 : Nat) : Rat) = 5 := rfl
  rw [e80] at n1
  rw [e5] at n2
  rw [← r2, ← c2] at n0 n1 n2
  obtain ⟨hE0, hE⟩ := E8_lin
  have hT := T8_small
  have hTp := T8_pos
  obtain ⟨w1, w2⟩ := wid_val hw
  have w2 : V8 (wid w) = V single w := w2
  -- the square of the root
  have hsq : V single w * V single w ≤ d * d + 1 / 10000 := by
    have h1 : V single w ≤ d + 1 / 500000 := by grind
    clear d1 p1 p2 k2 k3 f2 r2 c2 n1 n2 n0 e80 e5 hE hE0 hT hTp w2 hS hR hC hRC
    rcases Rat.le_total (a := 0) (b := V single w) with h | h
    · have := sq_mono h h1
      generalize V single w = x at *
      grind
    · have := sq_mono (a := -V single w) (b := 1 / 500000) (by grind) (by grind)
      have := Rat.mul_nonneg d0 d0
      generalize V single w = x at *
      grind
  have hdd := sq_mono d0 d3
  have hw0 : 0 ≤ (V single w) * (V single w) := sq_nonneg' _
  obtain ⟨a1, a2, a3⟩ := fmul_er w1 w1 (B := 500) (by rw [w2]; grind) (by rw [w2]; grind) (by grind)
  rw [w2] at a2 a3
  obtain ⟨b1, b2, b3⟩ := fmul_er r1 c1 (B := 500) (by grind) (by grind) (by grind)
  obtain ⟨g1, g2⟩ := prod_up2 b1 f1 f2 (by grind) (by grind) k1 (by grind) (by grind)
  rw [fgrt_val a1 g1]
  refine decide_eq_false ?_
  grind
end Go.Proofs.Ytbnakafnaeafiaa.AM
