import Derived.Test.YtmgpbchacndndaaD24
set_option linter.unusedSimpArgs false
set_option linter.unusedVariables false
set_option maxHeartbeats 1000000
set_option maxRecDepth 100000
namespace Go.Proofs.Ytmgpbchacndndaa.AM
open Ieee
def W (f : Format) (z p : Int) : Nat := f.nearest (decide (z < 0)) z.natAbs p
def Is (f : Format) (x : Nat) (z p : Int) : Prop := ∃ s m i, f.read x = .number s m i ∧ f.leastPlace ≤ i ∧ f.leastPlace ≤ p ∧ (if s then -(m : Int) else (m : Int)) * 2 ^ (i - f.leastPlace).toNat = z * 2 ^ (p - f.leastPlace).toNat
def Isp (f : Format) (x : Nat) (z p : Int) : Prop := ∃ s m i, f.read x = .number s m i ∧ f.leastPlace ≤ i ∧ f.leastPlace ≤ p ∧ (if s then -(m : Int) else (m : Int)) * 2 ^ (i - f.leastPlace).toNat = z * 2 ^ (p - f.leastPlace).toNat ∧ (m = 0 → s = false)
theorem Isp.is {f : Format} {x : Nat} {z p : Int} (h : Isp f x z p) : Is f x z p := by
  obtain ⟨s, m, i, h1, h2, h3, h4, _⟩ := h
  exact ⟨s, m, i, h1, h2, h3, h4⟩
theorem Aht_ (s : Bool) (m : Nat) (k : Nat) : signed s m k = (if s then -(m : Int) else (m : Int)) * 2 ^ k := by
  unfold signed
  rw [Nat.shiftLeft_eq]
  cases s
  · simp
  · simp [Int.neg_mul]
theorem Ma_ (f : Format) (neg : Bool) {r : Nat} (h : r < f.signWeight) : (f.word neg r / f.signWeight % 2 == 1) = neg ∧ f.word neg r % f.signWeight = r := by
  unfold Format.word
  cases neg
  · simp only [Bool.false_eq_true, if_false]
    rw [Nat.div_eq_of_lt h, Nat.mod_eq_of_lt h]
    exact ⟨rfl, rfl⟩
  · simp only [if_true]
    have hp : 0 < f.signWeight := by omega
    rw [Nat.add_comm, Nat.add_div_right _ hp, Nat.div_eq_of_lt h, Nat.add_mod_right, Nat.mod_eq_of_lt h]
    exact ⟨rfl, rfl⟩
theorem W_isp {f : Format} {z p : Int} (hL : z.natAbs.log2 ≤ f.fractionBits) (hp : f.leastPlace ≤ p) (htop : ((max (p + z.natAbs.log2 - f.fractionBits) f.leastPlace - f.leastPlace).toNat + 2) * f.binade ≤ f.infRung) (hs : f.infRung < f.signWeight) : Isp f (W f z p) z p := by
  have hbp : 0 < f.binade := Nat.two_pow_pos _
  by_cases hz : z = 0
  · subst hz
    have e : W f 0 p = 0 := by
      unfold W
      rw [show (Int.natAbs 0) = 0 from rfl, Qw_]
      rfl
    rw [e]
    refine ⟨false, 0, f.leastPlace, ?_, Int.le_refl _, hp, by simp, fun _ => rfl⟩
    unfold Format.read
    simp only [Nat.zero_div, Nat.zero_mod]
    rw [if_pos hbp]
    rfl
  · obtain ⟨m, hm⟩ : ∃ m, m = z.natAbs := ⟨_, rfl⟩
    have hm0 : m ≠ 0 := by omega
    rw [← hm] at hL htop
    have hw := Ann_ f (decide (z < 0)) hm0 p 0 hL hp
    rw [Nat.pow_zero, Nat.mul_one, show p - ((0 : Nat) : Int) = p by omega] at hw
    obtain ⟨last, hl⟩ : ∃ last, last = max (p + m.log2 - f.fractionBits) f.leastPlace := ⟨_, rfl⟩
    rw [← hl] at hw htop
    obtain ⟨e, he⟩ : ∃ e, e = (last - f.leastPlace).toNat := ⟨_, rfl⟩
    rw [← he] at hw htop
    obtain ⟨K, hK⟩ : ∃ K, K = m * 2 ^ (p - last).toNat := ⟨_, rfl⟩
    rw [← hK] at hw
    have hb2 : f.binade = 2 ^ f.fractionBits := rfl
    have hK2 : K < 2 * f.binade := by
      have h1 := Nat.mul_lt_mul_of_pos_right (Ej_ hm0) (Nat.two_pow_pos (p - last).toNat)
      rw [← hK, ← Nat.pow_add] at h1
      refine Nat.lt_of_lt_of_le h1 ?_
      rw [hb2, ← Nat.pow_succ']
      exact Nat.pow_le_pow_right (by decide) (by omega)
    have hK0 : K ≠ 0 := by rw [hK]; exact Nat.mul_ne_zero hm0 (Nat.ne_of_gt (Nat.two_pow_pos _))
    have hr : e * f.binade + K < f.infRung := by
      have := Nat.add_mul e 2 f.binade
      omega
    rw [Nat.min_eq_left (by omega)] at hw
    have hW : W f z p = f.word (decide (z < 0)) (e * f.binade + K) := by unfold W; rw [← hm]; exact hw
    obtain ⟨q1, q2⟩ := Ma_ f (decide (z < 0)) (r := e * f.binade + K) (by omega)
    have hval : K * 2 ^ e = m * 2 ^ (p - f.leastPlace).toNat := by
      rw [hK, Nat.mul_assoc, ← Nat.pow_add]
      congr 2
      omega
    have hsg : ∀ i : Int, (i - f.leastPlace).toNat = e → (if decide (z < 0) = true then -(K : Int) else (K : Int)) * 2 ^ (i - f.leastPlace).toNat = z * 2 ^ (p - f.leastPlace).toNat := fun i hi => by
      rw [hi]
      have hv : (K : Int) * 2 ^ e = (m : Int) * 2 ^ (p - f.leastPlace).toNat := by
        have := congrArg (fun n : Nat => (n : Int)) hval
        simpa using this
      by_cases h : z < 0
      · rw [if_pos (decide_eq_true h), Int.neg_mul, hv, show z = -(m : Int) by omega, Int.neg_mul]
      · rw [if_neg (by simpa using h), hv, show z = (m : Int) by omega]
    rw [hW]
    unfold Isp Format.read
    simp only [q1, q2]
    by_cases c1 : e * f.binade + K < f.binade
    · have e0 : e = 0 := by
        rcases Nat.eq_zero_or_pos e with h | h
        · exact h
        · have := Nat.mul_le_mul_right f.binade h; omega
      rw [if_pos c1]
      exact ⟨_, _, _, rfl, Int.le_refl _, hp, by rw [e0, Nat.zero_mul, Nat.zero_add]; exact hsg _ (by omega), fun h => absurd h (by omega)⟩
    · rw [if_neg c1, if_pos hr]
      by_cases e0 : e = 0
      · subst e0
        simp only [Nat.zero_mul, Nat.zero_add] at c1 hr ⊢
        have d1 : K / f.binade = 1 := by
          refine Nat.div_eq_of_lt_le (by omega) (by omega)
        have d2 : K % f.binade = K - f.binade := by
          rw [Nat.mod_eq_sub_mod (by omega), Nat.mod_eq_of_lt (by omega)]
        rw [d1, d2]
        refine ⟨_, _, _, rfl, by omega, hp, ?_, fun h => absurd h (by omega)⟩
        rw [show f.binade + (K - f.binade) = K by omega]
        exact hsg _ (by omega)
      · have hK1 : f.binade ≤ K := by
          have a : 2 ^ m.log2 ≤ m := Nat.log2_self_le hm0
          have := Nat.mul_le_mul_right (2 ^ (p - last).toNat) a
          rw [← Nat.pow_add, ← hK] at this
          refine Nat.le_trans (Nat.le_of_eq ?_) this
          rw [hb2]
          congr 1
          omega
        have d1 : (e * f.binade + K) / f.binade = e + 1 := by
          refine Nat.div_eq_of_lt_le ?_ ?_
          · rw [Nat.add_mul]; omega
          · rw [Nat.add_mul, Nat.add_mul]; omega
        have d2 : (e * f.binade + K) % f.binade = K - f.binade := by
          rw [Nat.mul_comm, Nat.mul_add_mod, Nat.mod_eq_sub_mod hK1, Nat.mod_eq_of_lt (by omega)]
        rw [d1, d2]
        refine ⟨_, _, _, rfl, by omega, hp, ?_, fun h => absurd h (by omega)⟩
        rw [show f.binade + (K - f.binade) = K by omega]
        exact hsg _ (by omega)
theorem s1 : single.signWeight = 2147483648 := by kernel_rfl
theorem s2 : single.binade = 8388608 := by kernel_rfl
theorem s3 : single.infRung = 2139095040 := by kernel_rfl
theorem s4 : single.leastPlace = -149 := by kernel_rfl
theorem t1 : double.signWeight = 9223372036854775808 := by kernel_rfl
theorem t2 : double.binade = 4503599627370496 := by kernel_rfl
theorem t3 : double.infRung = 9218868437227405312 := by kernel_rfl
theorem t4 : double.leastPlace = -1074 := by kernel_rfl
theorem Yl_ {n k : Nat} (h : n < 2 ^ (k + 1)) : n.log2 ≤ k := by
  by_cases h0 : n = 0
  · subst h0; simp
  · have := (Nat.log2_lt h0).2 h; omega
abbrev W8 (z p : Int) : Nat := W double z p
theorem Aeg_ {z p : Int} (hz : z.natAbs < 9007199254740992) (h0 : -1074 ≤ p) (h1 : p ≤ 900) : Isp double (W8 z p) z p := by
  have hL : z.natAbs.log2 ≤ 52 := Yl_ (by omega)
  refine W_isp (by exact hL) (by rw [t4]; exact h0) ?_ (by rw [t1, t3]; decide)
  rw [t2, t3, t4]
  have : double.fractionBits = 52 := rfl
  rw [this]
  have h2 : ((max (p + (z.natAbs.log2 : Int) - ((52 : Nat) : Int)) (-1074) - -1074).toNat + 2) ≤ 2047 := by omega
  calc _ ≤ 2047 * 4503599627370496 := Nat.mul_le_mul_right _ h2
    _ = 9218868437227405312 := by decide
def P2 (p : Int) : Rat := (2 : Rat) ^ p
theorem Az_ (p q : Int) : P2 (p + q) = P2 p * P2 q := Rat.zpow_add (by decide) p q
theorem Bo_ (p : Int) : 0 < P2 p := Rat.zpow_pos (by decide)
theorem Br_ (n : Nat) : P2 (n : Int) = ((2 ^ n : Nat) : Rat) := by
  unfold P2
  rw [Rat.zpow_natCast, Rat.natCast_pow]; rfl
theorem Ez_ : P2 0 = 1 := Rat.zpow_zero 2
theorem Aqg_ {p : Int} (h : 0 ≤ p) : 1 ≤ P2 p := by
  obtain ⟨n, rfl⟩ : ∃ n : Nat, p = (n : Int) := ⟨p.toNat, by omega⟩
  rw [Br_]
  have : ((1 : Nat) : Rat) ≤ ((2 ^ n : Nat) : Rat) := Rat.natCast_le_natCast.2 (Nat.one_le_two_pow)
  exact this
theorem P2_le {p q : Int} (h : p ≤ q) : P2 p ≤ P2 q := by
  have e : P2 q = P2 p * P2 (q - p) := by rw [← Az_]; congr 1; omega
  have := Rat.mul_le_mul_of_nonneg_left (Aqg_ (show 0 ≤ q - p by omega)) (Rat.le_of_lt (Bo_ p))
  rw [e]; grind
theorem Lt_ (p : Int) : P2 p = 2 * P2 (p - 1) := by
  have e : P2 p = P2 1 * P2 (p - 1) := by rw [← Az_]; congr 1; omega
  have : P2 1 = 2 := Rat.zpow_one 2
  rw [e, this]
def val : Datum → Rat
  | .number s m i => (if s then -(m : Rat) else (m : Rat)) * P2 i
  | _ => 0
def V (f : Format) (x : Nat) : Rat := val (f.read x)
theorem Ame_ (neg : Bool) (n d : Nat) : 2 * (Toward.even.cut neg n d * 2 ^ d) ≤ 2 * n + 2 ^ d ∧ 2 * n ≤ 2 * (Toward.even.cut neg n d * 2 ^ d) + 2 ^ d := by
  unfold Toward.cut
  dsimp only
  by_cases hd : d ≤ n.log2 + 2
  · rw [Nat.min_eq_left hd, Nat.one_shiftLeft]
    have hp : 0 < 2 ^ d := Nat.two_pow_pos d
    generalize 2 ^ d = g at *
    have h1 := Nat.div_add_mod n g
    have h2 := Nat.mod_lt n hp
    generalize n / g = low at *
    generalize n % g = rest at *
    rw [Nat.mul_comm g low] at h1
    by_cases c : (decide (g < 2 * rest) || (g == 2 * rest && low % 2 == 1)) = true
    · rw [c]
      simp only [Bool.or_eq_true, decide_eq_true_eq, Bool.and_eq_true, beq_iff_eq] at c
      have : g ≤ 2 * rest := by omega
      simp only [Bool.toNat_true, Nat.add_mul, Nat.one_mul]
      omega
    · rw [Bool.not_eq_true] at c
      rw [c]
      simp only [Bool.or_eq_false_iff, decide_eq_false_iff_not] at c
      have : 2 * rest ≤ g := by omega
      simp only [Bool.toNat_false, Nat.add_zero]
      omega
  · rw [Nat.min_eq_right (by omega), Nat.one_shiftLeft]
    have h1 : n < 2 ^ (n.log2 + 1) := by
      by_cases h0 : n = 0
      · rw [h0]; exact Nat.two_pow_pos _
      · exact Ej_ h0
    have h2 : 2 ^ (n.log2 + 2) = 2 * 2 ^ (n.log2 + 1) := by rw [Nat.pow_succ' (n := n.log2 + 1)]
    have h3 : 2 ^ (n.log2 + 2) ≤ 2 ^ d := Nat.pow_le_pow_right (by decide) (by omega)
    have h4 : n / 2 ^ (n.log2 + 2) = 0 := Nat.div_eq_of_lt (by omega)
    have h5 : n % 2 ^ (n.log2 + 2) = n := Nat.mod_eq_of_lt (by omega)
    have h6 : decide (2 ^ (n.log2 + 2) < 2 * n) = false := decide_eq_false (by omega)
    rw [h4, h5, h6]
    simp only [Bool.false_or, Nat.zero_mod, show ((0 : Nat) == 1) = false from rfl, Bool.and_false, Bool.toNat_false, Nat.zero_add, Nat.zero_mul, Nat.mul_zero]
    omega
theorem Aqf_ (f : Format) (s : Bool) {e k : Nat} (hk : k ≤ 2 * f.binade) (he : 0 < e → f.binade ≤ k) (ht : (e + 3) * f.binade ≤ f.infRung) (hs : f.infRung < f.signWeight) :
    ∃ m i, f.read (f.word s (e * f.binade + k)) = .number s m i ∧ (m : Rat) * P2 i = (k : Rat) * P2 (f.leastPlace + e) := by
  have hb : 0 < f.binade := Nat.two_pow_pos _
  obtain ⟨b, hB⟩ : ∃ b, b = f.binade := ⟨_, rfl⟩
  rw [← hB] at hk he ht hb ⊢
  have ht' : e * b + 3 * b ≤ f.infRung := by rw [← Nat.add_mul]; exact ht
  have hr : e * b + k < f.infRung := by omega
  obtain ⟨g1, g2⟩ := Ma_ f s (r := e * b + k) (by omega)
  unfold Format.read
  dsimp only
  rw [g1, g2, ← hB]
  by_cases c1 : e * b + k < b
  · rw [if_pos c1]
    have e0 : e = 0 := by
      rcases Nat.eq_zero_or_pos e with h | h
      · exact h
      · have := Nat.mul_le_mul_right b (show 1 ≤ e from h); omega
    subst e0
    exact ⟨_, _, rfl, by simp⟩
  · rw [if_neg c1, if_pos hr]
    refine ⟨_, _, rfl, ?_⟩
    by_cases c2 : k < b
    · have e0 : e = 0 := by
        rcases Nat.eq_zero_or_pos e with h | h
        · exact h
        · have := he h; omega
      subst e0; omega
    · by_cases c3 : k = 2 * b
      · have h1 : e * b + k = (e + 2) * b := by rw [Nat.add_mul, c3]
        rw [h1, Nat.mul_mod_left, Nat.mul_div_cancel _ hb, Nat.add_zero]
        have h2 : f.leastPlace + ((e + 2 - 1 : Nat) : Int) = 1 + (f.leastPlace + e) := by omega
        have h3 : P2 1 = 2 := Rat.zpow_one 2
        rw [h2, Az_, h3, c3, Rat.natCast_mul]
        have : ((2 : Nat) : Rat) = 2 := rfl
        rw [this]; grind
      · have h1 : e * b + k = (k - b) + (e + 1) * b := by rw [Nat.add_mul, Nat.one_mul]; omega
        rw [h1, Nat.add_mul_mod_self_right, Nat.mod_eq_of_lt (by omega), Nat.add_mul_div_right _ _ hb, Nat.div_eq_of_lt (by omega)]
        have h2 : f.leastPlace + ((0 + (e + 1) - 1 : Nat) : Int) = f.leastPlace + e := by omega
        rw [h2, show b + (k - b) = k by omega]
theorem Y6_ (f : Format) (s : Bool) {m : Nat} (hm : m ≠ 0) (p : Int) (ht : ((max (p + m.log2 - f.fractionBits) f.leastPlace - f.leastPlace).toNat + 3) * f.binade ≤ f.infRung) (hs : f.infRung < f.signWeight) :
    ∃ k i, f.read (f.nearest s m p) = .number s k i ∧ (k : Rat) * P2 i - (m : Rat) * P2 p ≤ P2 (max (p + m.log2 - f.fractionBits) f.leastPlace - 1) ∧ (m : Rat) * P2 p - (k : Rat) * P2 i ≤ P2 (max (p + m.log2 - f.fractionBits) f.leastPlace - 1) ∧
      (max (p + m.log2 - f.fractionBits) f.leastPlace ≤ p → (k : Rat) * P2 i = (m : Rat) * P2 p) := by
  obtain ⟨l, hl⟩ : ∃ l, l = max (p + m.log2 - f.fractionBits) f.leastPlace := ⟨_, rfl⟩
  have hw : f.nearest s m p = f.word s (min ((l - f.leastPlace).toNat * f.binade + Toward.even.cut s (m <<< (p - l).toNat) (l - p).toNat) f.infRung) := by
    unfold Format.nearest
    rw [if_neg hm, hl]
  rw [← hl] at ht ⊢
  obtain ⟨k, hk⟩ : ∃ k, k = Toward.even.cut s (m <<< (p - l).toNat) (l - p).toNat := ⟨_, rfl⟩
  obtain ⟨e, he⟩ : ∃ e, e = (l - f.leastPlace).toNat := ⟨_, rfl⟩
  rw [← hk, ← he] at hw
  rw [← he] at ht
  have hl1 : p + m.log2 - f.fractionBits ≤ l := by omega
  have hl2 : f.leastPlace ≤ l := by omega
  have hb2 : f.binade = 2 ^ f.fractionBits := rfl
  have hmlo : 2 ^ m.log2 ≤ m := Nat.log2_self_le hm
  have hmhi := Ej_ hm
  have herr := Ame_ s (m <<< (p - l).toNat) (l - p).toNat
  rw [← hk, Nat.shiftLeft_eq] at herr
  have hk2 : k ≤ 2 * f.binade := by
    by_cases c : l ≤ p
    · have e0 : (l - p).toNat = 0 := by omega
      rw [e0, Nat.pow_zero, Nat.mul_one] at herr
      have h1 := Nat.mul_lt_mul_of_pos_right hmhi (Nat.two_pow_pos (p - l).toNat)
      rw [← Nat.pow_add] at h1
      have h2 : 2 ^ (m.log2 + 1 + (p - l).toNat) ≤ 2 ^ (f.fractionBits + 1) := Nat.pow_le_pow_right (by decide) (by omega)
      rw [Nat.pow_succ' (n := f.fractionBits), ← hb2] at h2
      omega
    · have e0 : (p - l).toNat = 0 := by omega
      rw [e0, Nat.pow_zero, Nat.mul_one] at herr
      have h1 : 2 ^ (m.log2 + 1) ≤ 2 ^ (f.fractionBits + 1 + (l - p).toNat) := Nat.pow_le_pow_right (by decide) (by omega)
      rw [Nat.pow_add (m := f.fractionBits + 1), Nat.pow_succ' (n := f.fractionBits), ← hb2] at h1
      have hp := Nat.two_pow_pos (l - p).toNat
      generalize 2 ^ (l - p).toNat = g at *
      have h3 : 2 * (k * g) < (2 * (2 * f.binade) + 1) * g := by rw [Nat.add_mul, Nat.one_mul, Nat.mul_assoc]; omega
      rw [← Nat.mul_assoc] at h3
      have := Nat.lt_of_mul_lt_mul_right h3
      omega
  have hklo : 0 < e → f.binade ≤ k := by
    intro h
    have hl3 : l = p + m.log2 - f.fractionBits := by omega
    by_cases c : l ≤ p
    · have e0 : (l - p).toNat = 0 := by omega
      rw [e0, Nat.pow_zero, Nat.mul_one] at herr
      have h1 := Nat.mul_le_mul_right (2 ^ (p - l).toNat) hmlo
      rw [← Nat.pow_add, show m.log2 + (p - l).toNat = f.fractionBits by omega, ← hb2] at h1
      omega
    · have e0 : (p - l).toNat = 0 := by omega
      rw [e0, Nat.pow_zero, Nat.mul_one] at herr
      have h1 : 2 ^ m.log2 = 2 ^ f.fractionBits * 2 ^ (l - p).toNat := by rw [← Nat.pow_add]; congr 1; omega
      rw [← hb2] at h1
      have hp := Nat.two_pow_pos (l - p).toNat
      generalize 2 ^ (l - p).toNat = g at *
      have h3 : (2 * f.binade) * g < (2 * k + 2) * g := by rw [Nat.add_mul, Nat.mul_assoc, Nat.mul_assoc]; omega
      have := Nat.lt_of_mul_lt_mul_right h3
      omega
  have hmin : e * f.binade + k ≤ f.infRung := by
    rw [Nat.add_mul] at ht; omega
  rw [Nat.min_eq_left hmin] at hw
  obtain ⟨k', i, r1, r2⟩ := Aqf_ f s hk2 hklo ht hs
  rw [← hw] at r1
  have hle : f.leastPlace + (e : Int) = l := by omega
  rw [hle] at r2
  refine ⟨k', i, r1, ?_⟩
  rw [r2]
  by_cases c : l ≤ p
  · have e0 : (l - p).toNat = 0 := by omega
    rw [e0, Nat.pow_zero, Nat.mul_one] at herr
    have hkk : k = m * 2 ^ (p - l).toNat := by omega
    have hv : (k : Rat) * P2 l = (m : Rat) * P2 p := by
      have h1 : P2 p = P2 ((p - l).toNat : Int) * P2 l := by rw [← Az_]; congr 1; omega
      rw [h1, Br_, hkk, Rat.natCast_mul]; grind
    have hp := Bo_ (l - 1)
    rw [hv]
    refine ⟨by grind, by grind, fun _ => rfl⟩
  · have e0 : (p - l).toNat = 0 := by omega
    rw [e0, Nat.pow_zero, Nat.mul_one] at herr
    obtain ⟨h1, h2⟩ := herr
    have h1 := Rat.natCast_le_natCast.2 h1
    have h2 := Rat.natCast_le_natCast.2 h2
    simp only [Rat.natCast_mul, Rat.natCast_add] at h1 h2
    have t2 : ((2 : Nat) : Rat) = 2 := rfl
    rw [← Br_, t2] at h1 h2
    have hpl : P2 l = P2 ((l - p).toNat : Int) * P2 p := by rw [← Az_]; congr 1; omega
    have hh := Lt_ l
    have hp := Bo_ p
    have g1 := Rat.mul_le_mul_of_nonneg_right h1 (Rat.le_of_lt hp)
    have g2 := Rat.mul_le_mul_of_nonneg_right h2 (Rat.le_of_lt hp)
    generalize P2 ((l - p).toNat : Int) = G at *
    generalize P2 p = Q at *
    generalize P2 (l - 1) = H at *
    rw [hpl] at hh ⊢
    refine ⟨by grind, by grind, fun h => absurd h c⟩
theorem Mr_ (f : Format) (x : Nat) {s : Bool} {m : Nat} {i : Int} (h : f.read x = .number s m i) : f.leastPlace ≤ i := by
  unfold Format.read at h
  dsimp only at h
  by_cases c1 : x % f.signWeight < f.binade
  · rw [if_pos c1] at h
    injection h with _ _ h3
    omega
  · rw [if_neg c1] at h
    by_cases c2 : x % f.signWeight < f.infRung
    · rw [if_pos c2] at h
      injection h with _ _ h3
      omega
    · rw [if_neg c2] at h
      split at h <;> cases h
def Top (f : Format) (T : Int) : Prop := f.infRung < f.signWeight ∧ ∀ q : Int, q < T → ((max (q - f.fractionBits) f.leastPlace - f.leastPlace).toNat + 3) * f.binade ≤ f.infRung
theorem top8 : Top double 1000 := by
  refine ⟨by rw [t1, t3]; decide, fun q hq => ?_⟩
  rw [t2, t3, t4]
  have h1 : double.fractionBits = 52 := rfl
  rw [h1]
  have h2 : (max (q - ((52 : Nat) : Int)) (-1074) - -1074).toNat + 3 ≤ 2047 := by omega
  exact Nat.mul_le_mul_right 4503599627370496 h2
def eps (f : Format) : Rat := P2 (-(f.fractionBits : Int) - 1)
def tau (f : Format) : Rat := P2 (f.leastPlace - 1)
theorem Ol_ (f : Format) : 0 < eps f := Bo_ _
theorem Wg_ (f : Format) : 0 < tau f := Bo_ _
theorem P2_lt {p q : Int} (h : P2 p < P2 q) : p < q := by
  rcases Int.lt_or_le p q with h' | h'
  · exact h'
  · have := P2_le h'; grind
theorem Sw_ (m : Nat) (p : Int) : 0 ≤ (m : Rat) * P2 p := Rat.mul_nonneg Rat.natCast_nonneg (Rat.le_of_lt (Bo_ p))
theorem Amc_ {m : Nat} (hm : m ≠ 0) (p : Int) : P2 (p + m.log2) ≤ (m : Rat) * P2 p := by
  rw [Int.add_comm, Az_, Br_]
  exact Rat.mul_le_mul_of_nonneg_right (Rat.natCast_le_natCast.2 (Nat.log2_self_le hm)) (Rat.le_of_lt (Bo_ p))
theorem Ami_ {f : Format} {T : Int} (hT : Top f T) (s : Bool) (m : Nat) (p : Int) (hv : (m : Rat) * P2 p < P2 T) :
    ∃ k i, f.read (f.nearest s m p) = .number s k i ∧ (k : Rat) * P2 i - (m : Rat) * P2 p ≤ (m : Rat) * P2 p * eps f + tau f ∧ (m : Rat) * P2 p - (k : Rat) * P2 i ≤ (m : Rat) * P2 p * eps f + tau f ∧
      (f.leastPlace ≤ p → (k : Rat) * P2 i - (m : Rat) * P2 p ≤ (m : Rat) * P2 p * eps f ∧ (m : Rat) * P2 p - (k : Rat) * P2 i ≤ (m : Rat) * P2 p * eps f) := by
  have ht := Wg_ f
  have he := Ol_ f
  by_cases hm : m = 0
  · subst hm
    rw [Qw_]
    have hb : 0 < f.binade := Nat.two_pow_pos _
    have hi : 0 < f.infRung := by
      have := hT.2 (T - 1) (by omega)
      have h3 : 3 * f.binade ≤ ((max (T - 1 - f.fractionBits) f.leastPlace - f.leastPlace).toNat + 3) * f.binade := Nat.mul_le_mul_right _ (by omega)
      omega
    obtain ⟨g1, g2⟩ := Ma_ f s (r := 0) (by have := hT.1; omega)
    refine ⟨0, f.leastPlace, ?_, ?_⟩
    · unfold Format.read
      dsimp only
      rw [g1, g2, if_pos hb]
    · have : ((0 : Nat) : Rat) = 0 := rfl
      rw [this]
      grind
  · have hlog := Amc_ hm p
    have hq : p + m.log2 < T := P2_lt (by grind)
    obtain ⟨k, i, h1, h2, h3, h4⟩ := Y6_ f s hm p (hT.2 _ hq) hT.1
    refine ⟨k, i, h1, ?_⟩
    have hmag := Sw_ m p
    have hme := Rat.mul_nonneg hmag (Rat.le_of_lt he)
    by_cases c : p + m.log2 - f.fractionBits ≤ f.leastPlace
    · rw [Int.max_eq_right c] at h2 h3 h4
      have e : tau f = P2 (f.leastPlace - 1) := rfl
      rw [← e] at h2 h3
      refine ⟨by grind, by grind, fun h => ?_⟩
      have := h4 h
      grind
    · rw [Int.max_eq_left (by omega)] at h2 h3
      have e : P2 (p + m.log2 - f.fractionBits - 1) = P2 (p + m.log2) * eps f := by
        unfold eps
        rw [← Az_]; congr 1; omega
      have g := Rat.mul_le_mul_of_nonneg_right hlog (Rat.le_of_lt he)
      rw [e] at h2 h3
      refine ⟨by grind, by grind, fun h => ⟨by grind, by grind⟩⟩
def isn (f : Format) (x : Nat) : Prop := ∃ s m i, f.read x = .number s m i
theorem Bc_ (s : Bool) (m : Nat) (i : Int) : val (.number s m i) = (if s then -(m : Rat) else (m : Rat)) * P2 i := rfl
theorem La_ {f : Format} {T : Int} (hT : Top f T) (s : Bool) (m : Nat) (p : Int) {v B : Rat} (hv : val (.number s m p) = v) (h1 : v ≤ B) (h2 : -v ≤ B) (hB : B < P2 T) :
    isn f (f.nearest s m p) ∧ V f (f.nearest s m p) - v ≤ B * eps f + tau f ∧ v - V f (f.nearest s m p) ≤ B * eps f + tau f ∧
      (f.leastPlace ≤ p → V f (f.nearest s m p) - v ≤ B * eps f ∧ v - V f (f.nearest s m p) ≤ B * eps f) := by
  have hm := Sw_ m p
  have hmB : (m : Rat) * P2 p ≤ B := by
    rw [Bc_] at hv
    cases s
    · simp only [Bool.false_eq_true, if_false] at hv; grind
    · simp only [if_true] at hv; grind
  obtain ⟨k, i, r, g1, g2, g3⟩ := Ami_ hT s m p (by grind)
  have he := Rat.mul_le_mul_of_nonneg_right hmB (Rat.le_of_lt (Ol_ f))
  refine ⟨⟨s, k, i, r⟩, ?_⟩
  have hV : V f (f.nearest s m p) = (if s then -(k : Rat) else (k : Rat)) * P2 i := by unfold V; rw [r]; rfl
  rw [hV, ← hv, Bc_]
  cases s
  · simp only [Bool.false_eq_true, if_false]
    refine ⟨by grind, by grind, fun h => ?_⟩
    obtain ⟨q1, q2⟩ := g3 h
    exact ⟨by grind, by grind⟩
  · simp only [if_true]
    refine ⟨by grind, by grind, fun h => ?_⟩
    obtain ⟨q1, q2⟩ := g3 h
    exact ⟨by grind, by grind⟩
theorem Aj4_ (T : Int) : ((T.natAbs : Nat) : Rat) = if T < 0 then -(T : Rat) else (T : Rat) := by
  by_cases h : T < 0
  · rw [if_pos h, ← Rat.intCast_neg, ← Rat.intCast_natCast]
    congr 1; omega
  · rw [if_neg h, ← Rat.intCast_natCast]
    congr 1; omega
theorem Jp_ (s : Bool) (m k : Nat) : ((signed s m k : Int) : Rat) = (if s then -(m : Rat) else (m : Rat)) * P2 (k : Int) := by
  rw [Aht_, Rat.intCast_mul, Br_, Rat.intCast_pow, Rat.natCast_pow]
  have e : ((2 : Int) : Rat) = ((2 : Nat) : Rat) := rfl
  cases s
  · simp only [Bool.false_eq_true, if_false, Rat.intCast_natCast, e]
  · simp only [if_true, Rat.intCast_natCast, Rat.intCast_neg, e]
theorem Xc_ {s t : Bool} {m n : Nat} {i j : Int} : ∃ u T, Datum.sum (.number s m i) (.number t n j) = some (.number u T (min i j)) ∧ val (.number u T (min i j)) = val (.number s m i) + val (.number t n j) := by
  obtain ⟨T, hT⟩ : ∃ T, T = signed s m (i - min i j).toNat + signed t n (j - min i j).toNat := ⟨_, rfl⟩
  refine ⟨if T = 0 then s && t else decide (T < 0), T.natAbs, by simp only [Datum.sum, ← hT], ?_⟩
  have hv : (T : Rat) * P2 (min i j) = val (.number s m i) + val (.number t n j) := by
    have e1 : P2 i = P2 ((i - min i j).toNat : Int) * P2 (min i j) := by rw [← Az_]; congr 1; omega
    have e2 : P2 j = P2 ((j - min i j).toNat : Int) * P2 (min i j) := by rw [← Az_]; congr 1; omega
    rw [hT, Rat.intCast_add, Jp_, Jp_, Bc_, Bc_, e1, e2, Rat.add_mul, Rat.mul_assoc, Rat.mul_assoc]
  rw [← hv, Bc_, Aj4_]
  by_cases h0 : T = 0
  · subst h0
    have : ((0 : Int) : Rat) = 0 := rfl
    simp only [Int.lt_irrefl, if_false, this]
    split <;> grind
  · rw [if_neg h0]
    by_cases h : T < 0
    · simp only [h, decide_true, if_true]; grind
    · simp only [h, decide_false, Bool.false_eq_true, if_false]
theorem Hp_ {x : Nat} (h : isn double x) : canon .f64 x = x := by
  obtain ⟨s, m, i, h⟩ := h
  refine Kq_ ?_
  unfold isNan
  show (double.read x).isNaN = false
  rw [h]; rfl
theorem Abm_ {f : Format} {T : Int} (hT : Top f T) {x y : Nat} (hx : isn f x) (hy : isn f y) {B : Rat} (h1 : V f x + V f y ≤ B) (h2 : -(V f x + V f y) ≤ B) (hB : B < P2 T) :
    ∃ w, f.add x y = some w ∧ isn f w ∧ V f w - (V f x + V f y) ≤ B * eps f ∧ (V f x + V f y) - V f w ≤ B * eps f := by
  obtain ⟨s, m, i, hx⟩ := hx
  obtain ⟨t, n, j, hy⟩ := hy
  have l1 := Mr_ f x hx
  have l2 := Mr_ f y hy
  obtain ⟨u, k, hs, hv⟩ := @Xc_ s t m n i j
  unfold V at h1 h2
  rw [hx, hy] at h1 h2
  obtain ⟨g1, _, _, g3⟩ := La_ hT u k (min i j) hv h1 h2 hB
  obtain ⟨g4, g5⟩ := g3 (by omega)
  refine ⟨f.nearest u k (min i j), ?_, g1, ?_⟩
  · unfold Format.add
    rw [hx, hy, hs]; rfl
  · have e1 : V f x = val (.number s m i) := by unfold V; rw [hx]
    have e2 : V f y = val (.number t n j) := by unfold V; rw [hy]
    rw [e1, e2]
    exact ⟨g4, g5⟩
theorem Aa0_ (s : Bool) (m : Nat) (i : Int) : val (.number (!s) m i) = -val (.number s m i) := by
  rw [Bc_, Bc_]
  cases s
  · simp only [Bool.not_false, if_true, Bool.false_eq_true, if_false]; grind
  · simp only [Bool.not_true, if_true, Bool.false_eq_true, if_false]; grind
theorem Am6_ {f : Format} {T : Int} (hT : Top f T) {x y : Nat} (hx : isn f x) (hy : isn f y) {B : Rat} (h1 : V f x - V f y ≤ B) (h2 : -(V f x - V f y) ≤ B) (hB : B < P2 T) :
    ∃ w, f.sub x y = some w ∧ isn f w ∧ V f w - (V f x - V f y) ≤ B * eps f ∧ (V f x - V f y) - V f w ≤ B * eps f := by
  obtain ⟨s, m, i, hx⟩ := hx
  obtain ⟨t, n, j, hy⟩ := hy
  have l1 := Mr_ f x hx
  have l2 := Mr_ f y hy
  obtain ⟨u, k, hs, hv⟩ := @Xc_ s (!t) m n i j
  rw [Aa0_] at hv
  unfold V at h1 h2
  rw [hx, hy] at h1 h2
  obtain ⟨g1, _, _, g3⟩ := La_ hT u k (min i j) hv (by grind) (by grind) hB
  obtain ⟨g4, g5⟩ := g3 (by omega)
  refine ⟨f.nearest u k (min i j), ?_, g1, ?_⟩
  · unfold Format.sub
    rw [hx, hy]
    simp only [Datum.opposite]
    rw [hs]; rfl
  · have e1 : V f x = val (.number s m i) := by unfold V; rw [hx]
    have e2 : V f y = val (.number t n j) := by unfold V; rw [hy]
    rw [e1, e2]
    exact ⟨by grind, by grind⟩
theorem Ak3_ {f : Format} {T : Int} (hT : Top f T) {x y : Nat} (hx : isn f x) (hy : isn f y) {B : Rat} (h1 : V f x * V f y ≤ B) (h2 : -(V f x * V f y) ≤ B) (hB : B < P2 T) :
    ∃ w, f.mul x y = some w ∧ isn f w ∧ V f w - V f x * V f y ≤ B * eps f + tau f ∧ V f x * V f y - V f w ≤ B * eps f + tau f := by
  obtain ⟨s, m, i, hx⟩ := hx
  obtain ⟨t, n, j, hy⟩ := hy
  have hv : val (.number (s ^^ t) (m * n) (i + j)) = val (.number s m i) * val (.number t n j) := by
    rw [Bc_, Bc_, Bc_, Az_, Rat.natCast_mul]
    cases s <;> cases t <;> simp <;> grind
  unfold V at h1 h2
  rw [hx, hy] at h1 h2
  obtain ⟨g1, g4, g5, _⟩ := La_ hT (s ^^ t) (m * n) (i + j) hv h1 h2 hB
  refine ⟨f.nearest (s ^^ t) (m * n) (i + j), ?_, g1, ?_⟩
  · unfold Format.mul
    rw [hx, hy]; rfl
  · have e1 : V f x = val (.number s m i) := by unfold V; rw [hx]
    have e2 : V f y = val (.number t n j) := by unfold V; rw [hy]
    rw [e1, e2]
    exact ⟨g4, g5⟩
theorem T2_ {f : Format} {x y : Nat} (hx : isn f x) (hy : isn f y) : f.order x y = some (if V f x < V f y then .lt else if V f x = V f y then .eq else .gt) := by
  obtain ⟨s, m, i, hx⟩ := hx
  obtain ⟨t, n, j, hy⟩ := hy
  have e1 : V f x = val (.number s m i) := by unfold V; rw [hx]
  have e2 : V f y = val (.number t n j) := by unfold V; rw [hy]
  unfold Format.order
  rw [hx, hy, e1, e2, Bc_, Bc_]
  simp only [Datum.order, Option.some.injEq]
  have p1 : P2 i = P2 ((i - min i j).toNat : Int) * P2 (min i j) := by rw [← Az_]; congr 1; omega
  have p2 : P2 j = P2 ((j - min i j).toNat : Int) * P2 (min i j) := by rw [← Az_]; congr 1; omega
  have hp := Bo_ (min i j)
  rw [p1, p2, ← Rat.mul_assoc, ← Rat.mul_assoc, ← Jp_, ← Jp_]
  generalize signed s m (i - min i j).toNat = A
  generalize signed t n (j - min i j).toNat = C
  simp only [compare, compareOfLessAndEq]
  have hlt : (A : Rat) * P2 (min i j) < (C : Rat) * P2 (min i j) ↔ A < C := by rw [Rat.mul_lt_mul_right hp, Rat.intCast_lt_intCast]
  by_cases c1 : A < C
  · rw [if_pos c1, if_pos (hlt.2 c1)]
  · rw [if_neg c1, if_neg (fun h => c1 (hlt.1 h))]
    by_cases c2 : A = C
    · rw [if_pos c2, if_pos (by rw [c2])]
    · have : ¬ ((A : Rat) * P2 (min i j) = (C : Rat) * P2 (min i j)) := fun h => c2 (by
        have h3 : (A : Rat) = (C : Rat) := by
          rcases Rat.mul_eq_zero.1 (show ((A : Rat) - C) * P2 (min i j) = 0 by grind) with h | h
          · grind
          · grind
        exact Rat.intCast_inj.1 h3)
      rw [if_neg c2, if_neg this]
theorem Aog_ {f : Format} {x : Nat} {z p : Int} (h : Is f x z p) : isn f x ∧ V f x = (z : Rat) * P2 p := by
  obtain ⟨s, m, i, h1, h2, h3, h4⟩ := h
  refine ⟨⟨s, m, i, h1⟩, ?_⟩
  unfold V
  rw [h1, Bc_]
  have e := congrArg (fun (t : Int) => (t : Rat)) h4
  simp only [Rat.intCast_mul, Rat.intCast_pow] at e
  have p1 : P2 i = P2 ((i - f.leastPlace).toNat : Int) * P2 f.leastPlace := by rw [← Az_]; congr 1; omega
  have p2 : P2 p = P2 ((p - f.leastPlace).toNat : Int) * P2 f.leastPlace := by rw [← Az_]; congr 1; omega
  have e2 : ∀ n : Nat, ((2 : Int) : Rat) ^ n = P2 (n : Int) := fun n => by rw [Br_, Rat.natCast_pow]; rfl
  rw [e2, e2] at e
  rw [p1, p2, ← Rat.mul_assoc, ← Rat.mul_assoc, ← e]
  cases s
  · simp only [Bool.false_eq_true, if_false, Rat.intCast_natCast]
  · simp only [if_true, Rat.intCast_natCast, Rat.intCast_neg]
theorem Alk_ {digits : Nat} {s t : Bool} {m n : Nat} {i j : Int} (hn : n ≠ 0) (hd : 1 ≤ digits) {q : Rat} (hq : q * val (.number t n j) = val (.number s m i)) :
    ∃ u k p, Datum.quotient digits (.number s m i) (.number t n j) = some (.number u k p) ∧
      (∀ B, q ≤ B → -q ≤ B → val (.number u k p) - q ≤ B * P2 (-(digits : Int)) ∧ q - val (.number u k p) ≤ B * P2 (-(digits : Int))) := by
  obtain ⟨more, hmo⟩ : ∃ more, more = digits + n.log2 - m.log2 := ⟨_, rfl⟩
  obtain ⟨a, ha⟩ : ∃ a, a = (m <<< more) / n := ⟨_, rfl⟩
  obtain ⟨r, hr⟩ : ∃ r, r = (m <<< more) % n := ⟨_, rfl⟩
  have hdm := Nat.div_add_mod (m <<< more) n
  rw [← ha, ← hr, Nat.shiftLeft_eq] at hdm
  have hrn : r < n := by rw [hr]; exact Nat.mod_lt _ (by omega)
  refine ⟨s ^^ t, 2 * a + (r != 0).toNat, i - j - more - 1, by simp only [Datum.quotient, if_neg hn, ← hmo, ← ha, ← hr], ?_⟩
  -- the value: (a + d/2) * G, the true one: (m 2^more / n) * G
  obtain ⟨G, hG⟩ : ∃ G, G = P2 (i - j - more) := ⟨_, rfl⟩
  have hGp : 0 < G := by rw [hG]; exact Bo_ _
  have hh : P2 (i - j - more - 1) * 2 = G := by rw [hG, Lt_ (i - j - more)]; grind
  have hnp : 0 < (n : Rat) := Rat.natCast_pos.2 (by omega)
  have hdm' := congrArg (fun (t : Nat) => (t : Rat)) hdm
  simp only [Rat.natCast_add, Rat.natCast_mul] at hdm'
  rw [← Br_] at hdm'
  have hpi : P2 i = P2 (more : Int) * G * P2 j := by rw [hG, ← Az_, ← Az_]; congr 1; omega
  have hjp := Bo_ j
  have hmp := Bo_ (more : Int)
  -- size of q
  obtain ⟨sg, hsg, hsq⟩ : ∃ sg : Rat, (sg = 1 ∨ sg = -1) ∧ q * n = sg * ((m : Rat) * P2 (more : Int) * G) ∧ val (.number (s ^^ t) (2 * a + (r != 0).toNat) (i - j - more - 1)) = sg * (((2 * a + (r != 0).toNat : Nat) : Rat) * P2 (i - j - more - 1)) := by
    rw [Bc_, Bc_, hpi] at hq
    refine ⟨if (s ^^ t) then -1 else 1, by cases (s ^^ t) <;> simp, ?_, ?_⟩
    · have key : ∀ X Y : Rat, X * P2 j = Y * P2 j → X = Y := fun X Y h => by
        rcases Rat.mul_eq_zero.1 (show (X - Y) * P2 j = 0 by grind) with h | h
        · grind
        · grind
      apply key
      cases s <;> cases t <;> simp at hq ⊢ <;> grind
    · rw [Bc_]
      cases (s ^^ t) <;> simp <;> grind
  obtain ⟨hq1, hv⟩ := hsq
  rw [hv]
  generalize val (.number (s ^^ t) (2 * a + (r != 0).toNat) (i - j - more - 1)) = W at *
  clear hv
  have h2a : ((2 * a + (r != 0).toNat : Nat) : Rat) * P2 (i - j - more - 1) = ((a : Rat) + (if r = 0 then 0 else 1 / 2)) * G := by
    rw [Rat.natCast_add, Rat.natCast_mul, ← hh]
    have t2 : ((2 : Nat) : Rat) = 2 := rfl
    by_cases c : r = 0
    · have : (r != 0).toNat = 0 := by rw [c]; rfl
      rw [this, if_pos c, t2]
      have : ((0 : Nat) : Rat) = 0 := rfl
      rw [this]; grind
    · have : (r != 0).toNat = 1 := by
        rw [show (r != 0) = true by simp [c]]; rfl
      rw [this, if_neg c, t2]
      have : ((1 : Nat) : Rat) = 1 := rfl
      rw [this]; grind
  rw [h2a]
  intro B hB1 hB2
  by_cases hm : m = 0
  · have ha0 : a = 0 := by rw [ha, hm]; simp
    have hr0 : r = 0 := by rw [hr, hm]; simp
    have hq0 : q = 0 := by
      rw [hm] at hq1
      have : ((0 : Nat) : Rat) = 0 := rfl
      rw [this] at hq1
      rcases Rat.mul_eq_zero.1 (show q * (n : Rat) = 0 by grind) with h | h
      · exact h
      · grind
    rw [ha0, if_pos hr0, hq0]
    have : ((0 : Nat) : Rat) = 0 := rfl
    rw [this]
    have := Rat.mul_nonneg (show 0 ≤ B by grind) (Rat.le_of_lt (Bo_ (-(digits : Int))))
    constructor <;> grind
  · -- a is large
    have hlo : n * 2 ^ digits ≤ 2 * (m * 2 ^ more) := by
      have h1 := Ej_ hn
      have h2 := Nat.log2_self_le hm
      have h3 : 2 ^ (n.log2 + 1) * 2 ^ digits ≤ 2 * (2 ^ m.log2 * 2 ^ more) := by
        rw [← Nat.pow_add, ← Nat.pow_add, ← Nat.pow_succ']
        exact Nat.pow_le_pow_right (by decide) (by omega)
      calc n * 2 ^ digits ≤ 2 ^ (n.log2 + 1) * 2 ^ digits := Nat.mul_le_mul_right _ (Nat.le_of_lt h1)
        _ ≤ 2 * (2 ^ m.log2 * 2 ^ more) := h3
        _ ≤ 2 * (m * 2 ^ more) := Nat.mul_le_mul_left _ (Nat.mul_le_mul_right _ h2)
    have hlo' := Rat.natCast_le_natCast.2 hlo
    simp only [Rat.natCast_mul] at hlo'
    rw [← Br_, ← Br_] at hlo'
    have t2 : ((2 : Nat) : Rat) = 2 := rfl
    rw [t2] at hlo'
    have hE : P2 (digits : Int) * P2 (-(digits : Int)) = 1 := by rw [← Az_, show (digits : Int) + -(digits : Int) = 0 by omega, Ez_]
    have hEp := Bo_ (-(digits : Int))
    generalize P2 (-(digits : Int)) = E at *
    generalize P2 (digits : Int) = D at *
    generalize P2 (more : Int) = M at *
    -- G ≤ 2 B E
    have hM0 : 0 ≤ (m : Rat) * M := Rat.mul_nonneg Rat.natCast_nonneg (Rat.le_of_lt hmp)
    have hqa : (m : Rat) * M * G ≤ B * n := by
      have g1 := Rat.mul_le_mul_of_nonneg_right hB1 (Rat.le_of_lt hnp)
      have g2 := Rat.mul_le_mul_of_nonneg_right hB2 (Rat.le_of_lt hnp)
      rcases hsg with h | h
      · rw [h] at hq1; grind
      · rw [h] at hq1; grind
    have hGE : G ≤ 2 * (B * E) := by
      have g1 := Rat.mul_le_mul_of_nonneg_right hlo' (Rat.le_of_lt (Rat.mul_pos hGp hEp))
      have g2 := Rat.mul_le_mul_of_nonneg_right hqa (Rat.le_of_lt hEp)
      have g3 : (n : Rat) * G ≤ (n : Rat) * (2 * (B * E)) := by
        have : (n : Rat) * D * (G * E) = (n : Rat) * G := by
          have : (n : Rat) * D * (G * E) = (n : Rat) * G * (D * E) := by grind
          rw [this, hE]; grind
        grind
      exact Rat.le_of_mul_le_mul_left g3 hnp
    -- the difference: at most G / 2
    have hr1 : (r : Rat) < n := Rat.natCast_lt_natCast.2 hrn
    have hr0 : 0 ≤ (r : Rat) := Rat.natCast_nonneg
    have key : ∀ X : Rat, X * n ≤ (G / 2) * n → X ≤ G / 2 := fun X h => Rat.le_of_mul_le_mul_right h hnp
    have hqn : q * n = sg * (((n : Rat) * a + r) * G) := by rw [hq1, ← hdm']
    have hrG : (r : Rat) * G ≤ n * G := Rat.mul_le_mul_of_nonneg_right (Rat.le_of_lt hr1) (Rat.le_of_lt hGp)
    have hrG0 : 0 ≤ (r : Rat) * G := Rat.mul_nonneg hr0 (Rat.le_of_lt hGp)
    have hnG : 0 < (n : Rat) * G := Rat.mul_pos hnp hGp
    by_cases c : r = 0
    · rw [if_pos c]
      have hr00 : (r : Rat) = 0 := by rw [c]; rfl
      rw [hr00] at hqn
      have k1 := key (sg * (((a : Rat) + 0) * G) - q) (by grind)
      have k2 := key (q - sg * (((a : Rat) + 0) * G)) (by grind)
      constructor <;> grind
    · rw [if_neg c]
      rcases hsg with h | h
      · rw [h] at hqn ⊢
        have k1 := key (1 * (((a : Rat) + 1 / 2) * G) - q) (by grind)
        have k2 := key (q - 1 * (((a : Rat) + 1 / 2) * G)) (by grind)
        constructor <;> grind
      · rw [h] at hqn ⊢
        have k1 := key (-1 * (((a : Rat) + 1 / 2) * G) - q) (by grind)
        have k2 := key (q - -1 * (((a : Rat) + 1 / 2) * G)) (by grind)
        constructor <;> grind
theorem Zn_ {f : Format} {T : Int} (hT : Top f T) {x y : Nat} (hx : isn f x) (hy : isn f y) (h0 : V f y ≠ 0) {q B : Rat} (hq : q * V f y = V f x) (h1 : q ≤ B) (h2 : -q ≤ B) (hB : 2 * B < P2 T) :
    ∃ w, f.div x y = some w ∧ isn f w ∧ V f w - q ≤ 2 * B * eps f + tau f ∧ q - V f w ≤ 2 * B * eps f + tau f := by
  obtain ⟨s, m, i, hx⟩ := hx
  obtain ⟨t, n, j, hy⟩ := hy
  have e1 : V f x = val (.number s m i) := by unfold V; rw [hx]
  have e2 : V f y = val (.number t n j) := by unfold V; rw [hy]
  rw [e1, e2] at hq
  have hn : n ≠ 0 := by
    rintro rfl
    rw [e2, Bc_] at h0
    have : ((0 : Nat) : Rat) = 0 := rfl
    rw [this] at h0
    cases t <;> simp at h0 <;> grind
  obtain ⟨u, k, p, g1, g2⟩ := Alk_ (digits := f.fractionBits + 2) hn (by omega) hq
  obtain ⟨g3, g4⟩ := g2 B h1 h2
  have he : P2 (-((f.fractionBits + 2 : Nat) : Int)) * 2 = eps f := by
    unfold eps
    rw [Lt_ (-(f.fractionBits : Int) - 1)]
    have : -(f.fractionBits : Int) - 1 - 1 = -((f.fractionBits + 2 : Nat) : Int) := by omega
    rw [this]; grind
  have hep := Bo_ (-((f.fractionBits + 2 : Nat) : Int))
  have heps : eps f ≤ 1 / 2 := by
    have h1 : eps f ≤ P2 (-1) := P2_le (by omega)
    have h2 : P2 (-1) * 2 = 1 := by
      have := Lt_ 0
      rw [Ez_] at this
      rw [show (0 : Int) - 1 = -1 by omega] at this; grind
    grind
  have hB0 : 0 ≤ B := by grind
  have hBe := Rat.mul_nonneg hB0 (Rat.le_of_lt hep)
  have hBe2 : B * P2 (-((f.fractionBits + 2 : Nat) : Int)) ≤ B / 4 := by
    have := Rat.mul_le_mul_of_nonneg_left (show P2 (-((f.fractionBits + 2 : Nat) : Int)) ≤ 1 / 4 by grind) hB0
    grind
  generalize P2 (-((f.fractionBits + 2 : Nat) : Int)) = e at *
  obtain ⟨g5, g6, g7, _⟩ := La_ hT u k p rfl (B := B + B * e) (by grind) (by grind) (by grind)
  have hz : B * e * eps f ≤ B * e / 2 := by
    have := Rat.mul_le_mul_of_nonneg_left heps hBe
    grind
  refine ⟨f.nearest u k p, ?_, g5, ?_, ?_⟩
  · unfold Format.div
    rw [hx, hy, g1]; rfl
  · have : (B + B * e) * eps f = B * eps f + B * e * eps f := by grind
    rw [this] at g6
    have h4 : 2 * B * eps f = B * eps f + B * e + B * e := by rw [← he]; grind
    grind
  · have : (B + B * e) * eps f = B * eps f + B * e * eps f := by grind
    rw [this] at g7
    have h4 : 2 * B * eps f = B * eps f + B * e + B * e := by rw [← he]; grind
    grind
def N8 (x : Nat) : Prop := isn double x
abbrev V8 (x : Nat) : Rat := V double x
def E8 : Rat := eps double
def T8 : Rat := tau double
theorem W7_ {x y : Nat} (hx : N8 x) (hy : N8 y) {B : Rat} (h1 : V8 x + V8 y ≤ B) (h2 : -(V8 x + V8 y) ≤ B) (hB : B < P2 1000) : N8 (fadd .f64 x y) ∧ V8 (fadd .f64 x y) - (V8 x + V8 y) ≤ B * E8 ∧ (V8 x + V8 y) - V8 (fadd .f64 x y) ≤ B * E8 := by
  obtain ⟨w, g1, g2, g3, g4⟩ := Abm_ top8 hx hy h1 h2 hB
  have e : fadd .f64 x y = w := by
    show fres .f64 (double.add x y) = _
    rw [g1]; exact Hp_ g2
  rw [e]; exact ⟨g2, g3, g4⟩
theorem Xg_ {x y : Nat} (hx : N8 x) (hy : N8 y) {B : Rat} (h1 : V8 x - V8 y ≤ B) (h2 : -(V8 x - V8 y) ≤ B) (hB : B < P2 1000) : N8 (fsub .f64 x y) ∧ V8 (fsub .f64 x y) - (V8 x - V8 y) ≤ B * E8 ∧ (V8 x - V8 y) - V8 (fsub .f64 x y) ≤ B * E8 := by
  obtain ⟨w, g1, g2, g3, g4⟩ := Am6_ top8 hx hy h1 h2 hB
  have e : fsub .f64 x y = w := by
    show fres .f64 (double.sub x y) = _
    rw [g1]; exact Hp_ g2
  rw [e]; exact ⟨g2, g3, g4⟩
theorem Mt_ {x y : Nat} (hx : N8 x) (hy : N8 y) {B : Rat} (h1 : V8 x * V8 y ≤ B) (h2 : -(V8 x * V8 y) ≤ B) (hB : B < P2 1000) : N8 (fmul .f64 x y) ∧ V8 (fmul .f64 x y) - V8 x * V8 y ≤ B * E8 + T8 ∧ V8 x * V8 y - V8 (fmul .f64 x y) ≤ B * E8 + T8 := by
  obtain ⟨w, g1, g2, g3, g4⟩ := Ak3_ top8 hx hy h1 h2 hB
  have e : fmul .f64 x y = w := by
    show fres .f64 (double.mul x y) = _
    rw [g1]; exact Hp_ g2
  rw [e]; exact ⟨g2, g3, g4⟩
theorem Alb_ {x y : Nat} (hx : N8 x) (hy : N8 y) (h0 : V8 y ≠ 0) {q B : Rat} (hq : q * V8 y = V8 x) (h1 : q ≤ B) (h2 : -q ≤ B) (hB : 2 * B < P2 1000) : N8 (fdiv .f64 x y) ∧ V8 (fdiv .f64 x y) - q ≤ 2 * B * E8 + T8 ∧ q - V8 (fdiv .f64 x y) ≤ 2 * B * E8 + T8 := by
  obtain ⟨w, g1, g2, g3, g4⟩ := Zn_ top8 hx hy h0 hq h1 h2 hB
  have e : fdiv .f64 x y = w := by
    show fres .f64 (double.div x y) = _
    rw [g1]; exact Hp_ g2
  rw [e]; exact ⟨g2, g3, g4⟩
theorem Xa_ {x y : Nat} (hx : N8 x) (hy : N8 y) : fgrt .f64 x y = decide (V8 y < V8 x) := by
  show (double.order x y == some .gt) = _
  rw [T2_ hx hy]
  by_cases c : V double x < V double y
  · rw [if_pos c, decide_eq_false (by grind)]; rfl
  · rw [if_neg c]
    by_cases c2 : V double x = V double y
    · rw [if_pos c2, decide_eq_false (by grind)]; rfl
    · rw [if_neg c2, decide_eq_true (by grind)]; rfl
theorem Apk_ {x y : Nat} (hx : N8 x) (hy : N8 y) : feq .f64 x y = decide (V8 x = V8 y) := by
  show (double.order x y == some .eq) = _
  rw [T2_ hx hy]
  by_cases c : V double x < V double y
  · rw [if_pos c, decide_eq_false (by grind)]; rfl
  · rw [if_neg c]
    by_cases c2 : V double x = V double y
    · rw [if_pos c2, decide_eq_true c2]; rfl
    · rw [if_neg c2, decide_eq_false c2]; rfl
theorem Anx_ : E8 = 1 / 9007199254740992 := by
  have h : E8 * P2 53 = 1 := by
    unfold E8 eps
    rw [← Az_, show -((double.fractionBits : Nat) : Int) - 1 + 53 = 0 from rfl, Ez_]
  have h2 : P2 53 = 9007199254740992 := by
    rw [show (53 : Int) = ((53 : Nat) : Int) from rfl, Br_]; rfl
  rw [h2] at h
  grind
theorem T8_le : T8 ≤ E8 * E8 * E8 * E8 := by
  unfold T8 E8 tau eps
  rw [← Az_, ← Az_, ← Az_, t4]
  exact P2_le (by decide)
theorem Tn_ : 0 < T8 := Wg_ _
theorem Ae8_ {z p : Int} (hz : z.natAbs < 9007199254740992) (h0 : -1074 ≤ p) (h1 : p ≤ 900) : N8 (W8 z p) ∧ V8 (W8 z p) = (z : Rat) * P2 p := Aog_ (Aeg_ hz h0 h1).is
def sm : Nat → (Nat → Rat) → Rat
  | 0, _ => 0
  | n + 1, f => sm n f + f n
theorem Ay_ {f g : Nat → Rat} : ∀ n, (∀ i, i < n → f i = g i) → sm n f = sm n g
  | 0, _ => rfl
  | n + 1, h => by simp only [sm]; rw [Ay_ n fun i hi => h i (by omega), h n (by omega)]
theorem Lz_ (f g : Nat → Rat) : ∀ n, sm n (fun i => f i + g i) = sm n f + sm n g
  | 0 => by simp only [sm]; grind
  | n + 1 => by simp only [sm]; rw [Lz_ f g n]; grind
theorem Ne_ (a : Rat) (f : Nat → Rat) : ∀ n, sm n (fun i => a * f i) = a * sm n f
  | 0 => by simp only [sm]; grind
  | n + 1 => by simp only [sm]; rw [Ne_ a f n]; grind
theorem Di_ : ∀ n, sm n (fun _ => 0) = 0
  | 0 => rfl
  | n + 1 => by simp only [sm]; rw [Di_ n]; grind
theorem Nh_ {f : Nat → Rat} : ∀ n, (∀ i, i < n → 0 ≤ f i) → 0 ≤ sm n f
  | 0, _ => by simp only [sm]; exact Rat.le_refl
  | n + 1, h => by
    have := Nh_ n fun i hi => h i (by omega)
    have := h n (by omega)
    simp only [sm]; grind
theorem sm_le {f g : Nat → Rat} : ∀ n, (∀ i, i < n → f i ≤ g i) → sm n f ≤ sm n g
  | 0, _ => by simp only [sm]; exact Rat.le_refl
  | n + 1, h => by
    have := sm_le n fun i hi => h i (by omega)
    have := h n (by omega)
    simp only [sm]; grind
theorem Kj_ {f : Nat → Rat} : ∀ n, (∀ i, i < n → 0 ≤ f i) → ∀ i, i < n → f i ≤ sm n f
  | 0, _, i, hi => by omega
  | n + 1, h, i, hi => by
    have h0 := Nh_ n fun i hi => h i (by omega)
    have hn := h n (by omega)
    simp only [sm]
    by_cases e : i = n
    · subst e; grind
    · have := Kj_ n (fun i hi => h i (by omega)) i (by omega); grind
theorem Uw_ (f : Nat → Nat → Rat) (m : Nat) : ∀ n, sm n (fun i => sm m (fun j => f i j)) = sm m (fun j => sm n (fun i => f i j))
  | 0 => by simp only [sm]; rw [Di_]
  | n + 1 => by
    simp only [sm]
    rw [Uw_ f m n, ← Lz_]
def dt (c : Nat) (u v : Nat → Rat) : Rat := sm c fun t => u t * v t
theorem Ba_ (c : Nat) (u v : Nat → Rat) : dt c u v = dt c v u := Ay_ c fun i _ => by grind
theorem Bh_ {c : Nat} {u u' v v' : Nat → Rat} (h : ∀ t, t < c → u t = u' t) (g : ∀ t, t < c → v t = v' t) : dt c u v = dt c u' v' := Ay_ c fun i hi => by rw [h i hi, g i hi]
theorem Cq_ (c : Nat) (u v w : Nat → Rat) : dt c (fun t => u t + v t) w = dt c u w + dt c v w := by
  unfold dt; rw [← Lz_]; exact Ay_ c fun i _ => by grind
theorem Bx_ (c : Nat) (a : Rat) (u w : Nat → Rat) : dt c (fun t => a * u t) w = a * dt c u w := by
  unfold dt; rw [← Ne_]; exact Ay_ c fun i _ => by grind
theorem Mv_ (c n : Nat) (f : Nat → Nat → Rat) (w : Nat → Rat) : dt c (fun t => sm n fun j => f j t) w = sm n fun j => dt c (f j) w := by
  unfold dt
  have : sm c (fun t => sm n (fun j => f j t) * w t) = sm c (fun t => sm n fun j => f j t * w t) := Ay_ c fun t _ => by
    rw [show sm n (fun j => f j t) * w t = w t * sm n (fun j => f j t) by grind, ← Ne_]
    exact Ay_ n fun j _ => by grind
  rw [this, Uw_]
theorem sq_nn (a : Rat) : 0 ≤ a * a := by
  rcases Rat.le_total (a := 0) (b := a) with h | h
  · exact Rat.mul_nonneg h h
  · have := Rat.mul_nonneg (show 0 ≤ -a by grind) (show 0 ≤ -a by grind); grind
theorem dt_nn (c : Nat) (u : Nat → Rat) : 0 ≤ dt c u u := Nh_ c fun i _ => sq_nn _
theorem Pi_ {c : Nat} {u : Nat → Rat} (h : dt c u u = 0) : ∀ t, t < c → u t = 0 := fun t ht => by
  have h1 : u t * u t ≤ dt c u u := Kj_ (f := fun t => u t * u t) c (fun i _ => sq_nn _) t ht
  have h2 := sq_nn (u t)
  rcases Rat.mul_eq_zero.1 (show u t * u t = 0 by grind) with h | h <;> exact h
theorem K3_ (c : Nat) (u v : Nat → Rat) (s : Rat) : dt c (fun t => u t + s * v t) (fun t => u t + s * v t) = dt c u u + 2 * s * dt c u v + s * s * dt c v v := by
  rw [Cq_, Bx_, Ba_ c u, Ba_ c v, Cq_, Cq_, Bx_, Bx_, Ba_ c v u]; grind
theorem dt_cs (c : Nat) (u v : Nat → Rat) : dt c u v * dt c u v ≤ dt c u u * dt c v v := by
  have hA := dt_nn c u
  have hC := dt_nn c v
  by_cases h0 : dt c v v = 0
  · have hv := Pi_ h0
    have hB : dt c u v = 0 := by
      have : dt c u v = dt c u (fun _ => 0) := Bh_ (fun _ _ => rfl) hv
      rw [this]
      exact (Ay_ c (g := fun _ => 0) fun i _ => by grind).trans (Di_ c)
    rw [hB, h0]; grind
  · have hp : 0 < dt c v v := by grind
    have hq := dt_nn c (fun t => u t + (-(dt c u v / dt c v v)) * v t)
    rw [K3_] at hq
    obtain ⟨s, hs⟩ : ∃ s, s = dt c u v / dt c v v := ⟨_, rfl⟩
    rw [← hs] at hq
    have hsC : s * dt c v v = dt c u v := by rw [hs]; exact Rat.div_mul_cancel h0
    generalize dt c u u = A at *
    generalize dt c u v = B at *
    generalize dt c v v = C at *
    have hq2 : 0 ≤ A - s * B := by
      have : s * s * C = s * B := by rw [← hsC]; grind
      have e : A + 2 * -s * B + -s * -s * C = A - s * B := by
        have : -s * -s * C = s * s * C := by grind
        grind
      rw [e] at hq; exact hq
    have h2 := Rat.mul_nonneg hq2 hC
    have h3 : (A - s * B) * C = A * C - B * B := by
      have : s * B * C = B * (s * C) := by grind
      have e : (A - s * B) * C = A * C - s * B * C := by grind
      rw [e, this, hsC]
    grind
theorem sq_le {a b : Rat} (h0 : 0 ≤ a) (h : a ≤ b) : a * a ≤ b * b := by
  have h1 := Rat.mul_le_mul_of_nonneg_left h h0
  have h2 := Rat.mul_le_mul_of_nonneg_right h (show 0 ≤ b by grind)
  grind
theorem le_sq {a b : Rat} (hb : 0 ≤ b) (h : a * a ≤ b * b) : a ≤ b := by
  rcases Rat.le_total (a := a) (b := b) with g | g
  · exact g
  · by_cases e : a = b
    · rw [e]; exact Rat.le_refl
    · have hlt : b < a := by grind
      have h1 := Rat.mul_lt_mul_of_pos_left hlt (show 0 < a by grind)
      have h2 := Rat.mul_le_mul_of_nonneg_right g hb
      grind
theorem N1_ {a b : Rat} (hb : 0 ≤ b) (h : a * a ≤ b * b) : a ≤ b ∧ -a ≤ b := ⟨le_sq hb h, le_sq hb (by grind)⟩
def Nb (c : Nat) (u : Nat → Rat) (s : Rat) : Prop := 0 ≤ s ∧ dt c u u ≤ s * s
theorem Nb.congr {c : Nat} {u v : Nat → Rat} {s : Rat} (h : Nb c u s) (g : ∀ t, t < c → u t = v t) : Nb c v s := ⟨h.1, by rw [← Bh_ g g]; exact h.2⟩
theorem Nb.mono {c : Nat} {u : Nat → Rat} {s t : Rat} (h : Nb c u s) (g : s ≤ t) : Nb c u t := ⟨Rat.le_trans h.1 g, Rat.le_trans h.2 (sq_le h.1 g)⟩
theorem Nb.dot {c : Nat} {u v : Nat → Rat} {s t : Rat} (h : Nb c u s) (g : Nb c v t) : dt c u v ≤ s * t ∧ -dt c u v ≤ s * t := by
  refine N1_ (Rat.mul_nonneg h.1 g.1) (Rat.le_trans (dt_cs c u v) ?_)
  have h1 := Rat.mul_le_mul_of_nonneg_left g.2 (dt_nn c u)
  have h2 := Rat.mul_le_mul_of_nonneg_right h.2 (sq_nn t)
  grind
theorem Nb.add {c : Nat} {u v : Nat → Rat} {s t : Rat} (h : Nb c u s) (g : Nb c v t) : Nb c (fun i => u i + v i) (s + t) := by
  refine ⟨Rat.add_nonneg h.1 g.1, ?_⟩
  have := K3_ c u v 1
  have e : dt c (fun i => u i + v i) (fun i => u i + v i) = dt c u u + 2 * dt c u v + dt c v v := by
    rw [Bh_ (u := fun i => u i + v i) (u' := fun i => u i + 1 * v i) (v := fun i => u i + v i) (v' := fun i => u i + 1 * v i) (fun t _ => by grind) (fun t _ => by grind), this]; grind
  rw [e]
  have := (h.dot g).1
  have := h.2
  have := g.2
  grind
theorem Nb.mul {c : Nat} {u : Nat → Rat} {s a b : Rat} (h : Nb c u s) (h1 : a ≤ b) (h2 : -a ≤ b) : Nb c (fun i => a * u i) (b * s) := by
  have hb : 0 ≤ b := by grind
  refine ⟨Rat.mul_nonneg hb h.1, ?_⟩
  have e : dt c (fun i => a * u i) (fun i => a * u i) = (a * a) * dt c u u := by rw [Bx_, Ba_, Bx_]; grind
  have ha : a * a ≤ b * b := by
    rcases Rat.le_total (a := 0) (b := a) with g | g
    · exact sq_le g h1
    · have := sq_le (show 0 ≤ -a by grind) h2; grind
  have h3 := Rat.mul_le_mul_of_nonneg_right ha (dt_nn c u)
  have h4 := Rat.mul_le_mul_of_nonneg_left h.2 (sq_nn b)
  rw [e]; grind
theorem Nb.neg {c : Nat} {u : Nat → Rat} {s : Rat} (h : Nb c u s) : Nb c (fun i => -u i) s := by
  refine ⟨h.1, ?_⟩
  have : dt c (fun i => -u i) (fun i => -u i) = dt c u u := Ay_ c fun t _ => by grind
  rw [this]; exact h.2
theorem Nb.sub {c : Nat} {u v : Nat → Rat} {s t : Rat} (h : Nb c u s) (g : Nb c v t) : Nb c (fun i => u i - v i) (s + t) :=
  (h.add g.neg).congr fun t _ => by grind
theorem Nb.comp {c : Nat} {u : Nat → Rat} {s : Rat} (h : Nb c u s) {t : Nat} (ht : t < c) : u t ≤ s ∧ -u t ≤ s := by
  refine N1_ h.1 (Rat.le_trans ?_ h.2)
  exact Kj_ (f := fun t => u t * u t) c (fun i _ => sq_nn _) t ht
theorem Nb.trunc {c d : Nat} {u : Nat → Rat} {s : Rat} (h : Nb c u s) (hd : d ≤ c) : Nb d u s := by
  refine ⟨h.1, Rat.le_trans ?_ h.2⟩
  have : ∀ k, dt d u u ≤ dt (d + k) u u := fun k => by
    induction k with
    | zero => exact Rat.le_refl
    | succ k ih =>
      have := sq_nn (u (d + k))
      have e : dt (d + (k + 1)) u u = dt (d + k) u u + u (d + k) * u (d + k) := rfl
      rw [e]; grind
  have h2 := this (c - d)
  rwa [show d + (c - d) = c by omega] at h2
theorem N7_ (b : Rat) : ∀ c, sm c (fun _ => b) = (c : Rat) * b
  | 0 => by simp only [sm]; have : ((0 : Nat) : Rat) = 0 := rfl; rw [this]; grind
  | c + 1 => by
    simp only [sm]; rw [N7_ b c, Rat.natCast_add]
    have : ((1 : Nat) : Rat) = 1 := rfl
    rw [this]; grind
theorem Nb.of {c : Nat} (hc : c ≤ 6) {u : Nat → Rat} {d : Rat} (h0 : 0 ≤ d) (h : ∀ t, t < c → u t ≤ d ∧ -u t ≤ d) : Nb c u (5 / 2 * d) := by
  refine ⟨by grind, ?_⟩
  have h1 : dt c u u ≤ sm c (fun _ => d * d) := sm_le c fun t ht => by
    obtain ⟨a, b⟩ := h t ht
    rcases Rat.le_total (a := 0) (b := u t) with g | g
    · exact sq_le g a
    · have := sq_le (show 0 ≤ -u t by grind) b; grind
  rw [N7_] at h1
  have h2 : (c : Rat) ≤ ((6 : Nat) : Rat) := Rat.natCast_le_natCast.2 hc
  have h3 : ((6 : Nat) : Rat) = 6 := rfl
  rw [h3] at h2
  have h4 := Rat.mul_le_mul_of_nonneg_right h2 (sq_nn d)
  have := sq_nn d
  grind
theorem Nb.zero (c : Nat) : Nb c (fun _ => 0) 0 := by
  refine ⟨Rat.le_refl, ?_⟩
  have : dt c (fun _ => (0 : Rat)) (fun _ => 0) = 0 := (Ay_ c (g := fun _ => 0) fun i _ => by grind).trans (Di_ c)
  rw [this]; grind
theorem am {a b x y : Rat} (h1 : a ≤ x) (h2 : -a ≤ x) (g1 : b ≤ y) (g2 : -b ≤ y) : a * b ≤ x * y ∧ -(a * b) ≤ x * y := by
  have hx : 0 ≤ x := by grind
  have hy : 0 ≤ y := by grind
  rcases Rat.le_total (a := 0) (b := a) with ha | ha
  · have i1 := Rat.mul_le_mul_of_nonneg_left g1 ha
    have i2 := Rat.mul_le_mul_of_nonneg_left g2 ha
    have i3 := Rat.mul_le_mul_of_nonneg_right h1 hy
    constructor <;> grind
  · have i1 := Rat.mul_le_mul_of_nonneg_left g1 (show 0 ≤ -a by grind)
    have i2 := Rat.mul_le_mul_of_nonneg_left g2 (show 0 ≤ -a by grind)
    have i3 := Rat.mul_le_mul_of_nonneg_right h2 hy
    constructor <;> grind
theorem Cc_ : 0 < E8 ∧ 9007199254740992 * E8 ≤ 1 := by
  have h := Anx_
  exact ⟨Ol_ _, by grind⟩
theorem T_le {s r : Rat} (hs : 1 / 1000 ≤ s) (hr : 1 / 1000 ≤ r) : T8 ≤ s * r * E8 / 1000000 := by
  obtain ⟨h0, h1⟩ := Cc_
  have hT := T8_le
  have hsr := Rat.mul_le_mul_of_nonneg_left hr (show 0 ≤ s by grind)
  have hE : E8 ≤ 1 / 1000000000000 := by grind
  have e2 := Rat.mul_le_mul_of_nonneg_left hE (Rat.le_of_lt h0)
  have e3 : E8 * E8 * E8 * E8 ≤ 1 / 1000000000000 * E8 := by
    have a1 := Rat.mul_le_mul_of_nonneg_right e2 (sq_nn E8)
    have a2 : E8 * E8 ≤ 1 := by grind
    have a3 := Rat.mul_le_mul_of_nonneg_right a2 (show 0 ≤ 1 / 1000000000000 * E8 by grind)
    grind
  have e4 := Rat.mul_le_mul_of_nonneg_right (show 1 / 1000000 ≤ s * r by grind) (Rat.le_of_lt h0)
  grind
theorem Kw_ : (1000000000000000000000000000000 : Rat) < P2 1000 := by
  have : P2 100 ≤ P2 1000 := P2_le (by decide)
  have h : (1000000000000000000000000000000 : Rat) < P2 100 := by
    rw [show (100 : Int) = ((100 : Nat) : Int) from rfl, Br_]
    have : ((2 ^ 100 : Nat) : Rat) = 1267650600228229401496703205376 := rfl
    rw [this]; grind
  grind
theorem Wi_ : N8 0 ∧ V8 0 = 0 := by
  have hr : double.read 0 = .number false 0 (-1074) := by kernel_rfl
  refine ⟨⟨_, _, _, hr⟩, ?_⟩
  show val (double.read 0) = 0
  rw [hr, Bc_]
  have : ((0 : Nat) : Rat) = 0 := rfl
  rw [this]; simp
noncomputable def fdot (x y : Nat → Nat) : Nat → Nat
  | 0 => 0
  | n + 1 => fadd .f64 (fdot x y n) (fmul .f64 (x n) (y n))
theorem X5_ {c : Nat} (hc : c ≤ 6) {x y : Nat → Nat} (hx : ∀ t, t < c → N8 (x t)) (hy : ∀ t, t < c → N8 (y t)) {s r : Rat} (hs : Nb c (fun t => V8 (x t)) s) (hr : Nb c (fun t => V8 (y t)) r) (s0 : 1 / 1000 ≤ s) (r0 : 1 / 1000 ≤ r) (s1 : s ≤ 1000000) (r1 : r ≤ 1000000) :
    ∀ m, m ≤ c → N8 (fdot x y m) ∧ V8 (fdot x y m) - dt m (fun t => V8 (x t)) (fun t => V8 (y t)) ≤ 5 * (m : Rat) * (s * r * E8) ∧ dt m (fun t => V8 (x t)) (fun t => V8 (y t)) - V8 (fdot x y m) ≤ 5 * (m : Rat) * (s * r * E8)
  | 0, _ => by
    obtain ⟨h1, h2⟩ := Wi_
    have e : ((0 : Nat) : Rat) = 0 := rfl
    refine ⟨h1, ?_⟩
    have e1 : fdot x y 0 = 0 := rfl
    have e2 : dt 0 (fun t => V8 (x t)) (fun t => V8 (y t)) = 0 := rfl
    rw [e1, h2, e2, e]; constructor <;> grind
  | m + 1, hm => by
    obtain ⟨i1, i2, i3⟩ := X5_ hc hx hy hs hr s0 r0 s1 r1 m (by omega)
    obtain ⟨hE0, hE⟩ := Cc_
    have hT := T_le s0 r0
    have hTp := Tn_
    obtain ⟨a1, a2⟩ := hs.comp (show m < c by omega)
    obtain ⟨b1, b2⟩ := hr.comp (show m < c by omega)
    obtain ⟨p1, p2⟩ := am a1 a2 b1 b2
    obtain ⟨d1, d2⟩ := (hs.trunc (show m + 1 ≤ c by omega)).dot (hr.trunc (show m + 1 ≤ c by omega))
    have ed : dt (m + 1) (fun t => V8 (x t)) (fun t => V8 (y t)) = dt m (fun t => V8 (x t)) (fun t => V8 (y t)) + V8 (x m) * V8 (y m) := rfl
    have ef : fdot x y (m + 1) = fadd .f64 (fdot x y m) (fmul .f64 (x m) (y m)) := rfl
    rw [ed] at d1 d2 ⊢
    rw [ef]
    have hK : s * r ≤ 1000000 * 1000000 := by
      have h1 := Rat.mul_le_mul_of_nonneg_left r1 (show 0 ≤ s by grind)
      grind
    have hK0 : 0 ≤ s * r := Rat.mul_nonneg (by grind) (by grind)
    have hbig := Kw_
    obtain ⟨g1, g2, g3⟩ := Mt_ (hx m (by omega)) (hy m (by omega)) p1 p2 (by grind)
    have hm6 : (m : Rat) ≤ ((6 : Nat) : Rat) := Rat.natCast_le_natCast.2 (by omega)
    have h6 : ((6 : Nat) : Rat) = 6 := rfl
    rw [h6] at hm6
    have hm0 : 0 ≤ (m : Rat) := Rat.natCast_nonneg
    have em : ((m + 1 : Nat) : Rat) = (m : Rat) + 1 := by rw [Rat.natCast_add]; rfl
    rw [em]
    obtain ⟨e, he⟩ : ∃ e, e = s * r * E8 := ⟨_, rfl⟩
    have he0 : 0 ≤ e := by rw [he]; exact Rat.mul_nonneg hK0 (Rat.le_of_lt hE0)
    have heK : 9007199254740992 * e ≤ s * r := by
      have := Rat.mul_le_mul_of_nonneg_left hE hK0
      rw [he]; grind
    have hme := Rat.mul_le_mul_of_nonneg_right hm6 he0
    have hme0 := Rat.mul_nonneg hm0 he0
    rw [← he] at i2 i3 g2 g3 hT ⊢
    generalize s * r = K at *
    generalize V8 (x m) * V8 (y m) = pr at *
    generalize dt m (fun t => V8 (x t)) (fun t => V8 (y t)) = d at *
    obtain ⟨k1, k2, k3⟩ := W7_ i1 g1 (B := 2 * K) (by grind) (by grind) (by grind)
    refine ⟨k1, ?_, ?_⟩
    · grind
    · grind
theorem Mc_ {c : Nat} (hc : c ≤ 6) {x y : Nat → Nat} (hx : ∀ t, t < c → N8 (x t)) (hy : ∀ t, t < c → N8 (y t)) {s r : Rat} (hs : Nb c (fun t => V8 (x t)) s) (hr : Nb c (fun t => V8 (y t)) r) (s0 : 1 / 1000 ≤ s) (r0 : 1 / 1000 ≤ r) (s1 : s ≤ 1000000) (r1 : r ≤ 1000000) :
    N8 (fdot x y c) ∧ V8 (fdot x y c) - dt c (fun t => V8 (x t)) (fun t => V8 (y t)) ≤ 30 * (s * r * E8) ∧ dt c (fun t => V8 (x t)) (fun t => V8 (y t)) - V8 (fdot x y c) ≤ 30 * (s * r * E8) := by
  obtain ⟨h1, h2, h3⟩ := X5_ hc hx hy hs hr s0 r0 s1 r1 c (Nat.le_refl _)
  have hc6 : (c : Rat) ≤ ((6 : Nat) : Rat) := Rat.natCast_le_natCast.2 hc
  have h6 : ((6 : Nat) : Rat) = 6 := rfl
  rw [h6] at hc6
  have he0 : 0 ≤ s * r * E8 := Rat.mul_nonneg (Rat.mul_nonneg (by grind) (by grind)) (Rat.le_of_lt Cc_.1)
  have := Rat.mul_le_mul_of_nonneg_right hc6 he0
  exact ⟨h1, by grind, by grind⟩
theorem Vm_ {X D S Z : Rat} (h : X * D ≤ S * Z) (hD : S ≤ 5 * D) (hS : 0 < S) (hZ : 0 ≤ Z) : X ≤ 5 * Z := by
  rcases Rat.le_total (a := X) (b := 0) with g | g
  · grind
  · have h1 := Rat.mul_le_mul_of_nonneg_left hD g
    have h2 : S * X ≤ S * (5 * Z) := by grind
    exact Rat.le_of_mul_le_mul_left h2 hS
theorem mu_le {c : Nat} {u r : Nat → Rat} {al si R mu : Rat} (hu : Nb c u al) (hR : dt c r r = R) (h2 : si * si ≤ 4 * R) (si1 : 0 < si) (hmu : mu * R = dt c u r) : mu * si ≤ 2 * al ∧ -(mu * si) ≤ 2 * al := by
  have hRp : 0 < R := by
    have := Rat.mul_pos si1 si1; grind
  have hcs := dt_cs c u r
  rw [← hmu, hR] at hcs
  have h3 := Rat.mul_le_mul_of_nonneg_right hu.2 (Rat.le_of_lt hRp)
  have h4 : mu * mu * R ≤ al * al := by
    have : (mu * mu * R) * R ≤ (al * al) * R := by grind
    exact Rat.le_of_mul_le_mul_right this hRp
  have h5 := Rat.mul_le_mul_of_nonneg_left h2 (sq_nn mu)
  refine N1_ (by have := hu.1; grind) ?_
  grind
noncomputable def fpart (x y : Nat → Nat) (c : Nat) : Nat := fdiv .f64 (fdot x y c) (fdot y y c)
theorem Oz_ {c : Nat} (hc : c ≤ 6) {x y : Nat → Nat} {u r : Nat → Rat} {al si et R mu : Rat} (hx : ∀ t, t < c → N8 (x t)) (hxu : ∀ t, t < c → V8 (x t) = u t) (hu : Nb c u al) (hy : ∀ t, t < c → N8 (y t)) (he : Nb c (fun t => V8 (y t) - r t) (et * si))
    (hR : dt c r r = R) (h1 : R ≤ si * si) (h2 : si * si ≤ 4 * R) (si1 : 1 / 1000 ≤ si) (si2 : si ≤ 10000) (al1 : 1 / 1000 ≤ al) (al2 : al ≤ 100000) (et0 : 0 ≤ et) (et1 : et ≤ 1 / 100000) (hmu : mu * R = dt c u r) :
    N8 (fpart x y c) ∧ (V8 (fpart x y c) - mu) * si ≤ al * (1600 * E8 + 40 * et) ∧ (mu - V8 (fpart x y c)) * si ≤ al * (1600 * E8 + 40 * et) ∧ V8 (fpart x y c) * si ≤ 3 * al ∧ -(V8 (fpart x y c) * si) ≤ 3 * al ∧
      V8 (fdot y y c) - R ≤ si * si * (120 * E8 + 3 * et) ∧ R - V8 (fdot y y c) ≤ si * si * (120 * E8 + 3 * et) ∧ N8 (fdot y y c) := by
  obtain ⟨hE0, hE⟩ := Cc_
  have sip : 0 < si := by grind
  have hS : 0 < si * si := Rat.mul_pos sip sip
  have hr : Nb c r si := ⟨Rat.le_of_lt sip, by rw [hR]; exact h1⟩
  -- the other row's norm
  have hets : et * si ≤ si / 100000 := by have := Rat.mul_le_mul_of_nonneg_right et1 (Rat.le_of_lt sip); grind
  have hets0 : 0 ≤ et * si := Rat.mul_nonneg et0 (Rat.le_of_lt sip)
  have hl : Nb c (fun t => V8 (y t)) (2 * si) := ((hr.add he).congr fun t _ => by grind).mono (by grind)
  have hxn : Nb c (fun t => V8 (x t)) al := hu.congr fun t ht => (hxu t ht).symm
  obtain ⟨a1, a2, a3⟩ := Mc_ hc hx hy hxn hl al1 (by grind) (by grind) (by grind)
  obtain ⟨b1, b2, b3⟩ := Mc_ hc hy hy hl hl (by grind) (by grind) (by grind) (by grind)
  -- exact dot products
  have e1 : dt c (fun t => V8 (x t)) (fun t => V8 (y t)) = dt c u r + dt c u (fun t => V8 (y t) - r t) := by
    rw [Bh_ (v := fun t => V8 (y t)) (v' := fun t => r t + (V8 (y t) - r t)) hxu (fun t _ => by grind), Ba_, Cq_, Ba_ c r, Ba_ c _ u]
  obtain ⟨f1, f2⟩ := hu.dot he
  have e2 : dt c (fun t => V8 (y t)) (fun t => V8 (y t)) = R + 2 * dt c r (fun t => V8 (y t) - r t) + dt c (fun t => V8 (y t) - r t) (fun t => V8 (y t) - r t) := by
    rw [← hR]
    have := K3_ c r (fun t => V8 (y t) - r t) 1
    rw [Bh_ (u := fun t => V8 (y t)) (u' := fun t => r t + 1 * (V8 (y t) - r t)) (v := fun t => V8 (y t)) (v' := fun t => r t + 1 * (V8 (y t) - r t)) (fun t _ => by grind) (fun t _ => by grind), this]; grind
  obtain ⟨f3, f4⟩ := hr.dot he
  have f5 := he.2
  have f6 := dt_nn c (fun t => V8 (y t) - r t)
  rw [e1, ← hmu] at a2 a3
  rw [e2] at b2 b3
  obtain ⟨mu1, mu2⟩ := mu_le hu hR h2 sip hmu
  have hbig := Kw_
  have hTT := T_le (s := 1 / 1000) (r := 1 / 1000) (by grind) (by grind)
  have hTp := Tn_
  have q0 : fpart x y c = fdiv .f64 (fdot x y c) (fdot y y c) := rfl
  rw [q0]
  generalize dt c u (fun t => V8 (y t) - r t) = w1 at *
  generalize dt c r (fun t => V8 (y t) - r t) = w2 at *
  generalize dt c (fun t => V8 (y t) - r t) (fun t => V8 (y t) - r t) = w3 at *
  generalize fdot x y c = F1 at *
  generalize fdot y y c = F2 at *
  clear hx hxu hy he hl hxn e1 e2 hr q0 hmu hu hR
  -- simple bounds
  have s1 : et * si * (et * si) ≤ et * (si * si) := by
    have i1 := Rat.mul_le_mul_of_nonneg_right et1 (Rat.mul_nonneg et0 (Rat.le_of_lt hS))
    have i2 : et * (et * (si * si)) = et * si * (et * si) := by grind
    have i3 : 0 ≤ et * (si * si) := Rat.mul_nonneg et0 (Rat.le_of_lt hS)
    grind
  have D2a : V8 F2 - R ≤ si * si * (120 * E8 + 3 * et) := by grind
  have D2b : R - V8 F2 ≤ si * si * (120 * E8 + 3 * et) := by grind
  have D1a : V8 F1 - mu * R ≤ si * (al * (60 * E8 + et)) := by grind
  have D1b : mu * R - V8 F1 ≤ si * (al * (60 * E8 + et)) := by grind
  clear a2 a3 b2 b3 f1 f2 f3 f4 f5 f6 s1
  have hb : 120 * E8 + 3 * et ≤ 1 / 1000 := by grind
  have hD : si * si ≤ 5 * V8 F2 := by
    have := Rat.mul_le_mul_of_nonneg_left hb (Rat.le_of_lt hS); grind
  have hD0 : 0 < V8 F2 := by grind
  obtain ⟨q, hq⟩ : ∃ q : Rat, q * V8 F2 = V8 F1 := ⟨V8 F1 / V8 F2, Rat.div_mul_cancel (by grind)⟩
  -- (q - mu) D2 = (D1 - mu R) - mu (D2 - R)
  have hal : 0 < al := by grind
  have hZ : 0 ≤ al * (300 * E8 + 7 * et) := Rat.mul_nonneg (Rat.le_of_lt hal) (by grind)
  obtain ⟨m1, m2⟩ := am mu1 mu2 D2a (show -(V8 F2 - R) ≤ si * si * (120 * E8 + 3 * et) by grind)
  have d1 := Rat.mul_le_mul_of_nonneg_left D1a (Rat.le_of_lt sip)
  have d2 := Rat.mul_le_mul_of_nonneg_left D1b (Rat.le_of_lt sip)
  have g1 : ((q - mu) * si) * V8 F2 ≤ (si * si) * (al * (300 * E8 + 7 * et)) := by
    have i1 : ((q - mu) * si) * V8 F2 = si * (V8 F1 - mu * R) - mu * si * (V8 F2 - R) := by rw [← hq]; grind
    rw [i1]; grind
  have g2 : ((mu - q) * si) * V8 F2 ≤ (si * si) * (al * (300 * E8 + 7 * et)) := by
    have i1 : ((mu - q) * si) * V8 F2 = si * (mu * R - V8 F1) + mu * si * (V8 F2 - R) := by rw [← hq]; grind
    rw [i1]; grind
  have k1 := Vm_ g1 hD hS hZ
  have k2 := Vm_ g2 hD hS hZ
  clear g1 g2 m1 m2 d1 d2 D1a D1b
  have hsm : al * (300 * E8 + 7 * et) ≤ al / 1000 := by
    have := Rat.mul_le_mul_of_nonneg_left (show 300 * E8 + 7 * et ≤ 1 / 1000 by grind) (Rat.le_of_lt hal); grind
  -- the quotient's size
  have qs1 : q * si ≤ 21 / 10 * al := by grind
  have qs2 : -(q * si) ≤ 21 / 10 * al := by grind
  obtain ⟨B, hB⟩ : ∃ B : Rat, B * si = 21 / 10 * al := ⟨21 / 10 * al / si, Rat.div_mul_cancel (by grind)⟩
  have qB1 : q ≤ B := by
    have : q * si ≤ B * si := by grind
    exact Rat.le_of_mul_le_mul_right this sip
  have qB2 : -q ≤ B := by
    have : -q * si ≤ B * si := by grind
    exact Rat.le_of_mul_le_mul_right this sip
  have hBb : 2 * B ≤ 1000000000 := by
    have : 2 * B * (1 / 1000) ≤ 1000000 := by
      have i1 := Rat.mul_le_mul_of_nonneg_left si1 (show 0 ≤ B by grind)
      grind
    grind
  obtain ⟨n1, n2, n3⟩ := Alb_ a1 b1 (by grind) hq qB1 qB2 (by grind)
  have r1 := Rat.mul_le_mul_of_nonneg_right n2 (Rat.le_of_lt sip)
  have r2 := Rat.mul_le_mul_of_nonneg_right n3 (Rat.le_of_lt sip)
  have hBE : (2 * B * E8 + T8) * si ≤ 5 * (al * E8) := by
    have i1 : 2 * B * E8 * si = 2 * E8 * (B * si) := by grind
    have i2 : T8 * si ≤ T8 * 10000 := Rat.mul_le_mul_of_nonneg_left si2 (Rat.le_of_lt hTp)
    have i3 := Rat.mul_le_mul_of_nonneg_right al1 (Rat.le_of_lt hE0)
    rw [hB] at i1
    grind
  have aE : 0 ≤ al * E8 := Rat.mul_nonneg (Rat.le_of_lt hal) (Rat.le_of_lt hE0)
  have ae : 0 ≤ al * et := Rat.mul_nonneg (Rat.le_of_lt hal) et0
  have aE2 : 9007199254740992 * (al * E8) ≤ al := by
    have := Rat.mul_le_mul_of_nonneg_left hE (Rat.le_of_lt hal); grind
  generalize V8 (fdiv .f64 F1 F2) = p at *
  have z1 : (p - q) * si ≤ 5 * (al * E8) := Rat.le_trans r1 hBE
  have z2 : (q - p) * si ≤ 5 * (al * E8) := Rat.le_trans r2 hBE
  clear r1 r2 n2 n3 hBE qB1 qB2 hBb hD hS hB hTT
  refine ⟨n1, ?_, ?_, ?_, ?_, D2a, D2b, b1⟩
  · grind
  · grind
  · grind
  · grind
theorem Abv_ {c : Nat} (hc : c ≤ 6) {z y : Nat → Nat} {p : Nat} {v r : Nat → Rat} {al si et mu e be : Rat} (hz : ∀ t, t < c → N8 (z t)) (hv : Nb c (fun t => V8 (z t) - v t) e) (hzb : ∀ t, t < c → V8 (z t) ≤ be ∧ -V8 (z t) ≤ be) (hbe : be ≤ 20 * al)
    (hy : ∀ t, t < c → N8 (y t)) (he : Nb c (fun t => V8 (y t) - r t) (et * si)) (hr : Nb c r si) (si1 : 1 / 1000 ≤ si) (al1 : 1 / 1000 ≤ al) (al2 : al ≤ 100000) (et0 : 0 ≤ et) (et1 : et ≤ 1 / 100000)
    (hp : N8 p) (p1 : (V8 p - mu) * si ≤ al * (1600 * E8 + 40 * et)) (p2 : (mu - V8 p) * si ≤ al * (1600 * E8 + 40 * et)) (p3 : V8 p * si ≤ 3 * al) (p4 : -(V8 p * si) ≤ 3 * al) (m1 : mu * si ≤ 2 * al) (m2 : -(mu * si) ≤ 2 * al) :
    (∀ t, t < c → N8 (fsub .f64 (z t) (fmul .f64 p (y t)))) ∧ Nb c (fun t => V8 (fsub .f64 (z t) (fmul .f64 p (y t))) - (v t - mu * r t)) (e + al * (1700 * E8 + 45 * et)) ∧
      (∀ t, t < c → V8 (fsub .f64 (z t) (fmul .f64 p (y t))) ≤ be + 4 * al ∧ -V8 (fsub .f64 (z t) (fmul .f64 p (y t))) ≤ be + 4 * al) := by
  obtain ⟨hE0, hE⟩ := Cc_
  have hbig := Kw_
  have sip : 0 < si := by grind
  have alp : 0 < al := by grind
  have hTT := T_le (s := 1 / 1000) (r := 1 / 1000) (by grind) (by grind)
  have aE0 : 0 < al * E8 := Rat.mul_pos alp hE0
  have aE : 9007199254740992 * (al * E8) ≤ al := by have := Rat.mul_le_mul_of_nonneg_left hE (Rat.le_of_lt alp); grind
  have hT : T8 ≤ al * E8 := by
    have := Rat.mul_le_mul_of_nonneg_right al1 (Rat.le_of_lt hE0); grind
  have ae0 : 0 ≤ al * et := Rat.mul_nonneg (Rat.le_of_lt alp) et0
  have ae1 : al * et ≤ al / 100000 := by have := Rat.mul_le_mul_of_nonneg_left et1 (Rat.le_of_lt alp); grind
  have div : ∀ a b : Rat, a * si ≤ b * si → a ≤ b := fun a b h => Rat.le_of_mul_le_mul_right h sip
  obtain ⟨P, hP⟩ : ∃ P : Rat, P * si = 3 * al := ⟨3 * al / si, Rat.div_mul_cancel (by grind)⟩
  obtain ⟨Mu, hMu⟩ : ∃ P : Rat, P * si = 2 * al := ⟨2 * al / si, Rat.div_mul_cancel (by grind)⟩
  obtain ⟨De, hDe⟩ : ∃ P : Rat, P * si = al * (1600 * E8 + 40 * et) := ⟨al * (1600 * E8 + 40 * et) / si, Rat.div_mul_cancel (by grind)⟩
  have hp1 : V8 p ≤ P := div _ _ (by grind)
  have hp2 : -V8 p ≤ P := div _ _ (by grind)
  have hm1 : mu ≤ Mu := div _ _ (by grind)
  have hm2 : -mu ≤ Mu := div _ _ (by grind)
  have hd1 : V8 p - mu ≤ De := div _ _ (by grind)
  have hd2 : -(V8 p - mu) ≤ De := div _ _ (by grind)
  -- the other row
  have hyn : Nb c (fun t => V8 (y t)) (si + et * si) := (hr.add he).congr fun t _ => by grind
  have key : ∀ t, t < c → N8 (fsub .f64 (z t) (fmul .f64 p (y t))) ∧ V8 (fsub .f64 (z t) (fmul .f64 p (y t))) - (V8 (z t) - V8 p * V8 (y t)) ≤ 28 * (al * E8) ∧ -(V8 (fsub .f64 (z t) (fmul .f64 p (y t))) - (V8 (z t) - V8 p * V8 (y t))) ≤ 28 * (al * E8) ∧
      V8 (fsub .f64 (z t) (fmul .f64 p (y t))) ≤ be + 4 * al ∧ -V8 (fsub .f64 (z t) (fmul .f64 p (y t))) ≤ be + 4 * al := fun t ht => by
    obtain ⟨y1, y2⟩ := hyn.comp ht
    obtain ⟨z1, z2⟩ := hzb t ht
    obtain ⟨q1, q2⟩ := am hp1 hp2 y1 y2
    have hq : P * (si + et * si) ≤ 31 / 10 * al := by
      have : P * (si + et * si) = P * si + et * (P * si) := by grind
      rw [this, hP]; grind
    have q1 : V8 p * V8 (y t) ≤ 31 / 10 * al := Rat.le_trans q1 hq
    have q2 : -(V8 p * V8 (y t)) ≤ 31 / 10 * al := Rat.le_trans q2 hq
    obtain ⟨g1, g2, g3⟩ := Mt_ hp (hy t ht) q1 q2 (by grind)
    have i1 : 31 / 10 * al * E8 + T8 ≤ 41 / 10 * (al * E8) := by grind
    have g2 := Rat.le_trans g2 i1
    have g3 := Rat.le_trans g3 i1
    generalize V8 p * V8 (y t) = pr at *
    have hz1 := hz t ht
    generalize fmul .f64 p (y t) = F at *
    obtain ⟨k1, k2, k3⟩ := Xg_ hz1 g1 (B := be + 19 / 5 * al) (by grind) (by grind) (by grind)
    have i2 : (be + 19 / 5 * al) * E8 ≤ 119 / 5 * (al * E8) := by
      have := Rat.mul_le_mul_of_nonneg_right hbe (Rat.le_of_lt hE0); grind
    have k2 := Rat.le_trans k2 i2
    have k3 := Rat.le_trans k3 i2
    generalize V8 (fsub .f64 (z t) F) = s at *
    clear hv he hr hyn hzb hz hy hbig hTT hMu hDe hP hp1 hp2 hm1 hm2 hd1 hd2 p1 p2 p3 p4 m1 m2
    exact ⟨k1, by grind, by grind, by grind, by grind⟩
  refine ⟨fun t ht => (key t ht).1, ?_, fun t ht => (key t ht).2.2.2⟩
  have n1 := hyn.mul hd1 hd2
  have n2 := he.mul hm1 hm2
  have n3 := Nb.of hc (u := fun t => V8 (fsub .f64 (z t) (fmul .f64 p (y t))) - (V8 (z t) - V8 p * V8 (y t))) (d := 28 * (al * E8)) (by grind) (fun t ht => ⟨(key t ht).2.1, (key t ht).2.2.1⟩)
  refine (((((hv.sub n1).sub n2).add n3)).congr fun t ht => ?_).mono ?_
  · grind
  · have e1 : De * (si + et * si) = De * si + et * (De * si) := by grind
    have e2 : Mu * (et * si) = et * (Mu * si) := by grind
    rw [e1, e2, hDe, hMu]
    have e3 : et * (al * (1600 * E8 + 40 * et)) ≤ 1 / 100000 * (al * (1600 * E8 + 40 * et)) := Rat.mul_le_mul_of_nonneg_right et1 (Rat.mul_nonneg (Rat.le_of_lt alp) (by grind))
    clear hv he hr hyn hzb hz hy hbig hTT hMu hDe hP hp1 hp2 hm1 hm2 hd1 hd2 p1 p2 p3 p4 m1 m2 n1 n2 n3 key e1 e2
    grind
noncomputable def lft (x : Nat → Nat) (B : Nat → Nat → Nat) (c : Nat) : Nat → Nat → Nat
  | 0, t => x t
  | j + 1, t => fsub .f64 (lft x B c j t) (fmul .f64 (fpart x (B j) c) (B j t))
noncomputable def Bs (x : Nat → Nat → Nat) (c : Nat) : Nat → Nat → Nat → Nat
  | 0 => fun _ _ => 0
  | i + 1 => fun j t => if j = i then lft (x i) (Bs x c i) c i t else Bs x c i j t
noncomputable def Bg (x : Nat → Nat → Nat) (c i t : Nat) : Nat := lft (x i) (Bs x c i) c i t
theorem Bs_eq (x : Nat → Nat → Nat) (c : Nat) : ∀ i j, j < i → ∀ t, Bs x c i j t = Bg x c j t
  | 0, j, h, t => by omega
  | i + 1, j, h, t => by
    simp only [Bs]
    by_cases e : j = i
    · rw [if_pos e, e]; rfl
    · rw [if_neg e]; exact Bs_eq x c i j (by omega) t
theorem Nj_ {x x' y y' : Nat → Nat} : ∀ c, (∀ t, t < c → x t = x' t) → (∀ t, t < c → y t = y' t) → fdot x y c = fdot x' y' c
  | 0, _, _ => rfl
  | c + 1, h, g => by simp only [fdot]; rw [Nj_ c (fun t ht => h t (by omega)) (fun t ht => g t (by omega)), h c (by omega), g c (by omega)]
theorem Aa9_ {x x' y y' : Nat → Nat} {c : Nat} (h : ∀ t, t < c → x t = x' t) (g : ∀ t, t < c → y t = y' t) : fpart x y c = fpart x' y' c := by
  unfold fpart; rw [Nj_ c h g, Nj_ c g g]
theorem X6_ {x x' : Nat → Nat} {B B' : Nat → Nat → Nat} {c : Nat} (h : ∀ t, t < c → x t = x' t) : ∀ j, (∀ i, i < j → ∀ t, t < c → B i t = B' i t) → ∀ t, t < c → lft x B c j t = lft x' B' c j t
  | 0, _, t, ht => h t ht
  | j + 1, g, t, ht => by
    simp only [lft]
    rw [X6_ h j (fun i hi => g i (by omega)) t ht, Aa9_ h (g j (by omega)), g j (by omega) t ht]
theorem Bg_eq (x : Nat → Nat → Nat) (c i t : Nat) (ht : t < c) : Bg x c i t = lft (x i) (Bg x c) c i t :=
  X6_ (fun _ _ => rfl) i (fun j hj s _ => Bs_eq x c i j hj s) t ht
structure Near (c : Nat) (y : Nat → Nat) (r : Nat → Rat) (si et : Rat) : Prop where
  num : ∀ t, t < c → N8 (y t)
  er : Nb c (fun t => V8 (y t) - r t) (et * si)
  lo : dt c r r ≤ si * si
  hi : si * si ≤ 4 * dt c r r
  s1 : 1 / 1000 ≤ si
  s2 : si ≤ 10000
theorem Nd_ {c : Nat} (hc : c ≤ 6) {x : Nat → Nat} {B : Nat → Nat → Nat} {u : Nat → Rat} {r : Nat → Nat → Rat} {si : Nat → Rat} {mu : Nat → Rat} {al et : Rat} (hx : ∀ t, t < c → N8 (x t)) (hxu : ∀ t, t < c → V8 (x t) = u t) (hu : Nb c u al)
    (al1 : 1 / 1000 ≤ al) (al2 : al ≤ 100000) (et0 : 0 ≤ et) (et1 : et ≤ 1 / 100000) {n : Nat} (hn : n ≤ 3) (hB : ∀ j, j < n → Near c (B j) (r j) (si j) et) (hmu : ∀ j, j < n → mu j * dt c (r j) (r j) = dt c u (r j)) :
    ∀ m, m ≤ n → (∀ t, t < c → N8 (lft x B c m t)) ∧ Nb c (fun t => V8 (lft x B c m t) - (u t - sm m fun j => mu j * r j t)) ((m : Rat) * (al * (1700 * E8 + 45 * et))) ∧ (∀ t, t < c → V8 (lft x B c m t) ≤ al + 4 * (m : Rat) * al ∧ -V8 (lft x B c m t) ≤ al + 4 * (m : Rat) * al)
  | 0, _ => by
    have e0 : ((0 : Nat) : Rat) = 0 := rfl
    refine ⟨hx, ?_, fun t ht => ?_⟩
    · refine ((Nb.zero c).congr fun t ht => ?_).mono (by rw [e0]; grind)
      show 0 = V8 (x t) - (u t - 0)
      rw [hxu t ht]; grind
    · obtain ⟨h1, h2⟩ := hu.comp ht
      show V8 (x t) ≤ _ ∧ _
      have e1 : V8 (lft x B c 0 t) = u t := hxu t ht
      rw [e0, e1, hxu t ht]; constructor <;> grind
  | m + 1, hm => by
    obtain ⟨i1, i2, i3⟩ := Nd_ hc hx hxu hu al1 al2 et0 et1 hn hB hmu m (by omega)
    have hb := hB m (by omega)
    have hme := hmu m (by omega)
    obtain ⟨g1, g2, g3, g4, g5, _⟩ := Oz_ hc hx hxu hu hb.num hb.er rfl hb.lo hb.hi hb.s1 hb.s2 al1 al2 et0 et1 hme
    obtain ⟨m1, m2⟩ := mu_le hu rfl hb.hi (by have := hb.s1; grind) hme
    have hm3 : (m : Rat) ≤ ((3 : Nat) : Rat) := Rat.natCast_le_natCast.2 (by omega)
    have h3 : ((3 : Nat) : Rat) = 3 := rfl
    rw [h3] at hm3
    have em : ((m + 1 : Nat) : Rat) = (m : Rat) + 1 := by rw [Rat.natCast_add]; rfl
    have hma := Rat.mul_le_mul_of_nonneg_right hm3 (show 0 ≤ al by grind)
    obtain ⟨k1, k2, k3⟩ := Abv_ hc i1 i2 i3 (by grind) hb.num hb.er ⟨by have := hb.s1; grind, hb.lo⟩ hb.s1 al1 al2 et0 et1 g1 g2 g3 g4 g5 m1 m2
    rw [em]
    refine ⟨k1, ?_, fun t ht => ?_⟩
    · refine (k2.congr fun t ht => ?_).mono (by grind)
      show _ = V8 (fsub .f64 (lft x B c m t) (fmul .f64 (fpart x (B m) c) (B m t))) - (u t - (sm m (fun j => mu j * r j t) + mu m * r m t))
      grind
    · obtain ⟨q1, q2⟩ := k3 t ht
      have e : lft x B c (m + 1) t = fsub .f64 (lft x B c m t) (fmul .f64 (fpart x (B m) c) (B m t)) := rfl
      rw [e]
      constructor <;> grind
def Dec (n c : Nat) (w r mu : Nat → Nat → Rat) : Prop :=
  (∀ i, i < n → ∀ t, t < c → w i t = r i t + sm i fun j => mu i j * r j t) ∧ (∀ i, i < n → ∀ j, j < i → dt c (r i) (r j) = 0)
theorem Si_ {f : Nat → Rat} {j : Nat} : ∀ n, j < n → (∀ l, l < n → l ≠ j → f l = 0) → sm n f = f j
  | 0, h, _ => by omega
  | n + 1, h, g => by
    simp only [sm]
    by_cases e : j = n
    · subst e
      have : sm j f = 0 := (Ay_ j fun i hi => g i (by omega) (by omega)).trans (Di_ j)
      rw [this]; grind
    · rw [Si_ n (by omega) fun l hl => g l (by omega), g n (by omega) (by omega)]; grind
theorem Dec.orth {n c : Nat} {w r mu : Nat → Nat → Rat} (h : Dec n c w r mu) {i j : Nat} (hi : i < n) (hj : j < n) (e : i ≠ j) : dt c (r i) (r j) = 0 := by
  rcases Nat.lt_or_ge j i with g | g
  · exact h.2 i hi j g
  · rw [Ba_]; exact h.2 j hj i (by omega)
theorem Dec.dot {n c : Nat} {w r mu : Nat → Nat → Rat} (h : Dec n c w r mu) {i j : Nat} (hi : i < n) (hj : j < i) : dt c (w i) (r j) = mu i j * dt c (r j) (r j) := by
  rw [Bh_ (u' := fun t => r i t + sm i fun l => mu i l * r l t) (v' := r j) (h.1 i hi) (fun _ _ => rfl), Cq_, h.2 i hi j hj, Mv_ c i (fun l t => mu i l * r l t) (r j), Si_ i hj]
  · rw [Bx_]; grind
  · intro l hl e
    rw [Bx_, h.orth (by omega) (by omega) e]; grind
theorem Dec.self {n c : Nat} {w r mu : Nat → Nat → Rat} (h : Dec n c w r mu) {i : Nat} (hi : i < n) : dt c (w i) (r i) = dt c (r i) (r i) := by
  rw [Bh_ (u' := fun t => r i t + sm i fun l => mu i l * r l t) (v' := r i) (h.1 i hi) (fun _ _ => rfl), Cq_, Mv_ c i (fun l t => mu i l * r l t) (r i)]
  have : sm i (fun j => dt c (fun t => mu i j * r j t) (r i)) = 0 := (Ay_ i fun l hl => by rw [Bx_, h.orth (by omega) hi (by omega)]; grind).trans (Di_ i)
  rw [this]; grind
theorem Dec.norm {n c : Nat} {w r mu : Nat → Nat → Rat} (h : Dec n c w r mu) {i : Nat} (hi : i < n) : dt c (w i) (w i) = dt c (r i) (r i) + sm i fun j => mu i j * mu i j * dt c (r j) (r j) := by
  have e : dt c (w i) (w i) = dt c (fun t => r i t + sm i fun l => mu i l * r l t) (w i) := Bh_ (h.1 i hi) (fun _ _ => rfl)
  rw [e, Cq_, Mv_ c i (fun l t => mu i l * r l t) (w i), Ba_ c (r i), h.self hi]
  congr 1
  exact Ay_ i fun j hj => by rw [Bx_, Ba_, h.dot hi hj]; grind
theorem Vg_ (c : Nat) (w : Nat → Nat → Rat) : ∀ n, ∃ r mu, Dec n c w r mu
  | 0 => ⟨w, w, fun i hi => by omega, fun i hi => by omega⟩
  | n + 1 => by
    obtain ⟨r, mu, h⟩ := Vg_ c w n
    obtain ⟨m, hm⟩ : ∃ m : Nat → Rat, ∀ j, m j = dt c (w n) (r j) / dt c (r j) (r j) := ⟨_, fun _ => rfl⟩
    have hm' : ∀ j, m j * dt c (r j) (r j) = dt c (w n) (r j) := fun j => by
      by_cases h0 : dt c (r j) (r j) = 0
      · have hz := Pi_ h0
        have : dt c (w n) (r j) = 0 := (Ay_ c (g := fun _ => 0) fun t ht => by rw [hz t ht]; grind).trans (Di_ c)
        rw [h0, this]; grind
      · rw [hm]; exact Rat.div_mul_cancel h0
    obtain ⟨q, hq⟩ : ∃ q : Nat → Rat, ∀ t, q t = w n t - sm n fun j => m j * r j t := ⟨_, fun _ => rfl⟩
    have e : ∀ t, q t = w n t + (-1) * sm n fun j => m j * r j t := fun t => by rw [hq]; grind
    have horth : ∀ j, j < n → dt c q (r j) = 0 := fun j hj => by
      rw [Bh_ (u' := fun t => w n t + (-1) * sm n fun l => m l * r l t) (v' := r j) (fun t _ => e t) (fun _ _ => rfl), Cq_, Bx_, Mv_ c n (fun l t => m l * r l t) (r j), Si_ n hj, Bx_, hm' j]
      · grind
      · intro l hl el
        rw [Bx_, h.orth hl hj el]; grind
    refine ⟨fun i => if i = n then q else r i, fun i => if i = n then m else mu i, ?_, ?_⟩
    · intro i hi t ht
      by_cases ei : i = n
      · subst ei
        simp only [if_true]
        have : (sm i fun j => m j * (if j = i then q else r j) t) = sm i fun j => m j * r j t := Ay_ i fun j hj => by rw [if_neg (by omega)]
        rw [this, hq]; grind
      · simp only [if_neg ei]
        rw [h.1 i (by omega) t ht]
        congr 1
        exact Ay_ i fun j hj => by rw [if_neg (by omega)]
    · intro i hi j hj
      by_cases ei : i = n
      · subst ei
        simp only [if_true, if_neg (show ¬ (j = i) by omega)]
        exact horth j hj
      · simp only [if_neg ei, if_neg (show ¬ (j = n) by omega)]
        exact h.2 i (by omega) j hj
theorem Wq_ (a : Nat → Rat) (b : Rat) (j : Nat) : ∀ k, j < k → sm k (fun l => if l < j then a l else if l = j then b else 0) = sm j a + b
  | 0, h => by omega
  | k + 1, h => by
    simp only [sm]
    by_cases e : j = k
    · subst e
      rw [if_neg (by omega), if_pos rfl]
      congr 1
      exact Ay_ j fun i hi => by rw [if_pos hi]
    · rw [Wq_ a b j k (by omega), if_neg (by omega), if_neg (by omega)]; grind
def tk (w : Nat → Nat → Rat) (k j : Nat) (q : Rat) : Nat → Nat → Rat := fun i t => if i = k then w k t - q * w j t else w i t
def tkm (mu : Nat → Nat → Rat) (k j : Nat) (q : Rat) : Nat → Nat → Rat := fun i l => if i = k then mu k l - q * (if l < j then mu j l else if l = j then 1 else 0) else mu i l
theorem Amg_ {n c : Nat} {w r mu : Nat → Nat → Rat} (h : Dec n c w r mu) {k j : Nat} (hk : k < n) (hj : j < k) (q : Rat) : Dec n c (tk w k j q) r (tkm mu k j q) := by
  refine ⟨fun i hi t ht => ?_, h.2⟩
  by_cases e : i = k
  · subst e
    have e1 : tk w i j q i t = w i t - q * w j t := by unfold tk; rw [if_pos rfl]
    have e2 : (sm i fun l => tkm mu i j q i l * r l t) = (sm i fun l => mu i l * r l t) + (-q) * sm i fun l => if l < j then mu j l * r l t else if l = j then r j t else 0 := by
      rw [← Ne_, ← Lz_]
      exact Ay_ i fun l hl => by
        unfold tkm
        rw [if_pos rfl]
        by_cases a : l < j
        · rw [if_pos a, if_pos a]; grind
        · rw [if_neg a, if_neg a]
          by_cases b : l = j
          · rw [if_pos b, if_pos b, b]; grind
          · rw [if_neg b, if_neg b]; grind
    rw [e1, e2, Wq_ (fun l => mu j l * r l t) (r j t) j i hj, h.1 i hi t ht, h.1 j (by omega) t ht]; grind
  · have e1 : tk w k j q i t = w i t := by unfold tk; rw [if_neg e]
    rw [e1, h.1 i hi t ht]
    congr 1
    exact Ay_ i fun l hl => by unfold tkm; rw [if_neg e]
theorem Ub_ {f g : Nat → Rat} {a : Nat} : ∀ i, a + 1 < i → (∀ l, l < i → l ≠ a → l ≠ a + 1 → f l = g l) → f a + f (a + 1) = g a + g (a + 1) → sm i f = sm i g
  | 0, h, _, _ => by omega
  | i + 1, h, h1, h2 => by
    by_cases e : a + 1 = i
    · subst e
      simp only [sm]
      rw [Ay_ a fun l hl => h1 l (by omega) (by omega) (by omega)]; grind
    · simp only [sm]
      rw [Ub_ i (by omega) (fun l hl => h1 l (by omega)) h2, h1 i (by omega) (by omega) (by omega)]
def xc (w : Nat → Nat → Rat) (a : Nat) : Nat → Nat → Rat := fun i => if i = a then w (a + 1) else if i = a + 1 then w a else w i
theorem Ahc_ {n c : Nat} {w r mu : Nat → Nat → Rat} (h : Dec n c w r mu) {a : Nat} (ha : a + 1 < n) : ∃ r' mu', Dec n c (xc w a) r' mu' ∧ (∀ i, i ≠ a → i ≠ a + 1 → r' i = r i) ∧ (∀ i, i < a → mu' i = mu i) ∧
    dt c (r' a) (r' a) = dt c (r (a + 1)) (r (a + 1)) + mu (a + 1) a * mu (a + 1) a * dt c (r a) (r a) ∧ dt c (r' (a + 1)) (r' (a + 1)) ≤ dt c (r a) (r a) := by
  obtain ⟨m, hm⟩ : ∃ m, m = mu (a + 1) a := ⟨_, rfl⟩
  rw [← hm]
  obtain ⟨p, hp⟩ : ∃ p : Nat → Rat, ∀ t, p t = r (a + 1) t + m * r a t := ⟨_, fun _ => rfl⟩
  have hpw : ∀ v, dt c p v = dt c (r (a + 1)) v + m * dt c (r a) v := fun v => by
    rw [Bh_ (u' := fun t => r (a + 1) t + m * r a t) (v' := v) (fun t _ => hp t) (fun _ _ => rfl), Cq_, Bx_]
  have o1 : dt c (r (a + 1)) (r a) = 0 := h.2 _ ha a (by omega)
  have hpp : dt c p p = dt c (r (a + 1)) (r (a + 1)) + m * m * dt c (r a) (r a) := by
    rw [hpw, Ba_ c _ p, hpw, Ba_ c _ p, hpw, Ba_ c (r a) (r (a + 1)), o1]; grind
  have hap : dt c (r a) p = m * dt c (r a) (r a) := by rw [Ba_, hpw, o1]; grind
  obtain ⟨nu, hnu⟩ : ∃ nu, nu * dt c p p = m * dt c (r a) (r a) := by
    by_cases h0 : dt c p p = 0
    · have hz := Pi_ h0
      have : dt c (r a) p = 0 := (Ay_ c (g := fun _ => 0) fun t ht => by rw [hz t ht]; grind).trans (Di_ c)
      exact ⟨0, by rw [← hap, this]; grind⟩
    · exact ⟨m * dt c (r a) (r a) / dt c p p, Rat.div_mul_cancel h0⟩
  obtain ⟨q, hq⟩ : ∃ q : Nat → Rat, ∀ t, q t = r a t + (-nu) * p t := ⟨_, fun _ => rfl⟩
  have hqw : ∀ v, dt c q v = dt c (r a) v - nu * dt c p v := fun v => by
    rw [Bh_ (u' := fun t => r a t + (-nu) * p t) (v' := v) (fun t _ => hq t) (fun _ _ => rfl), Cq_, Bx_]; grind
  have oqp : dt c q p = 0 := by rw [hqw, hap, hnu]; grind
  have hqq : dt c q q = dt c (r a) (r a) - nu * nu * dt c p p := by
    rw [hqw, Ba_ c p q, oqp, Ba_ c _ q, hqw, Ba_ c p, hap]
    have : nu * (m * dt c (r a) (r a)) = nu * (nu * dt c p p) := by rw [hnu]
    grind
  have op : ∀ j, j < n → j ≠ a → j ≠ a + 1 → dt c p (r j) = 0 := fun j hj e1 e2 => by
    rw [hpw, h.orth ha hj (by omega), h.orth (show a < n by omega) hj (by omega)]; grind
  have oq : ∀ j, j < n → j ≠ a → j ≠ a + 1 → dt c q (r j) = 0 := fun j hj e1 e2 => by
    rw [hqw, op j hj e1 e2, h.orth (show a < n by omega) hj (by omega)]; grind
  obtain ⟨R, hR⟩ : ∃ R : Nat → Nat → Rat, R = fun i => if i = a then p else if i = a + 1 then q else r i := ⟨_, rfl⟩
  have R1 : R a = p := by rw [hR]; simp
  have R2 : R (a + 1) = q := by rw [hR]; simp
  have R3 : ∀ i, i ≠ a → i ≠ a + 1 → R i = r i := fun i e1 e2 => by rw [hR]; simp [e1, e2]
  obtain ⟨N, hN⟩ : ∃ N : Nat → Nat → Rat, N = fun i => if i < a then mu i else if i = a then mu (a + 1) else if i = a + 1 then (fun j => if j = a then nu else mu a j) else fun j => if j = a then mu i a * nu + mu i (a + 1) * (1 - m * nu) else if j = a + 1 then mu i a - mu i (a + 1) * m else mu i j := ⟨_, rfl⟩
  refine ⟨R, N, ⟨fun i hi t ht => ?_, fun i hi j hj => ?_⟩, R3, fun i hi => by rw [hN]; simp [hi], by rw [R1]; exact hpp, ?_⟩
  · by_cases c1 : i < a
    · have e1 : xc w a i = w i := by unfold xc; rw [if_neg (by omega), if_neg (by omega)]
      have e2 : N i = mu i := by rw [hN]; simp [c1]
      rw [e1, e2, R3 i (by omega) (by omega), h.1 i hi t ht]
      congr 1
      exact Ay_ i fun j hj => by rw [R3 j (by omega) (by omega)]
    · by_cases c2 : i = a
      · subst c2
        have e1 : xc w i i = w (i + 1) := by unfold xc; rw [if_pos rfl]
        have e2 : N i = mu (i + 1) := by rw [hN]; simp
        rw [e1, e2, R1, h.1 (i + 1) ha t ht, hp, hm]
        have e3 : (sm (i + 1) fun j => mu (i + 1) j * r j t) = (sm i fun j => mu (i + 1) j * r j t) + mu (i + 1) i * r i t := rfl
        have e4 : (sm i fun j => mu (i + 1) j * R j t) = sm i fun j => mu (i + 1) j * r j t := Ay_ i fun j hj => by rw [R3 j (by omega) (by omega)]
        rw [e3, e4]; grind
      · by_cases c3 : i = a + 1
        · subst c3
          have e1 : xc w a (a + 1) = w a := by unfold xc; rw [if_neg (by omega), if_pos rfl]
          have e2 : N (a + 1) = fun j => if j = a then nu else mu a j := by rw [hN]; simp [show ¬ (a + 1 < a) by omega]
          rw [e1, e2, R2, h.1 a (by omega) t ht, hq]
          have e3 : (sm (a + 1) fun j => (if j = a then nu else mu a j) * R j t) = (sm a fun j => (if j = a then nu else mu a j) * R j t) + (if a = a then nu else mu a a) * R a t := rfl
          have e4 : (sm a fun j => (if j = a then nu else mu a j) * R j t) = sm a fun j => mu a j * r j t := Ay_ a fun j hj => by rw [if_neg (by omega), R3 j (by omega) (by omega)]
          rw [e3, e4, if_pos rfl, R1]; grind
        · have e1 : xc w a i = w i := by unfold xc; rw [if_neg c2, if_neg c3]
          have e2 : N i = fun j => if j = a then mu i a * nu + mu i (a + 1) * (1 - m * nu) else if j = a + 1 then mu i a - mu i (a + 1) * m else mu i j := by rw [hN]; simp [c1, c2, c3]
          rw [e1, e2, R3 i c2 c3, h.1 i hi t ht]
          congr 1
          refine Ub_ (a := a) i (by omega) (fun l hl g1 g2 => ?_) ?_
          · simp only [if_neg g1, if_neg g2, R3 l g1 g2]
          · simp only [if_true, if_neg (show ¬ (a + 1 = a) by omega), R1, R2, hp, hq]; grind
  · by_cases c1 : j = a
    · subst c1
      rw [R1]
      by_cases c2 : i = j + 1
      · rw [c2, R2]; exact oqp
      · rw [R3 i (by omega) c2, Ba_]; exact op i hi (by omega) c2
    · by_cases c2 : j = a + 1
      · subst c2
        rw [R2, R3 i (by omega) (by omega), Ba_]; exact oq i hi (by omega) (by omega)
      · rw [R3 j c1 c2]
        by_cases c3 : i = a
        · rw [c3, R1]; exact op j (by omega) c1 c2
        · by_cases c4 : i = a + 1
          · rw [c4, R2]; exact oq j (by omega) c1 c2
          · rw [R3 i c3 c4]; exact h.2 i hi j hj
  · rw [R2, hqq]
    have := Rat.mul_nonneg (sq_nn nu) (dt_nn c p)
    grind
end Go.Proofs.Ytmgpbchacndndaa.AM
