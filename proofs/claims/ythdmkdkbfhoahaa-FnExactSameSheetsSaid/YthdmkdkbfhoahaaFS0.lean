/- Sameness of singles: equal with equal signs is having one word. -/
import Derived.Test.YthdmkdkbfhoahaaD24
import Derived.Test.YthdmkdkbfhoahaaST0
set_option linter.unusedSimpArgs false
set_option linter.unusedVariables false
set_option maxHeartbeats 1000000
set_option maxRecDepth 4000
namespace Go.Proofs.Ythdmkdkbfhoahaa.AM
open Ieee

/-- What a single that is a number widens to. -/
theorem wid_dec (x : Nat) (s : Bool) (hnum : x % 2147483648 < 2139095040) (hz : x % 2147483648 ≠ 0) (hs : (x / 2147483648 % 2 == 1) = s) :
    ∃ K q, FloatKind.f64.decode (wid x) = .number s K q ∧ 4503599627370496 ≤ K ∧ K < 9007199254740992 ∧ -201 ≤ q ∧ q ≤ 104 := by
  obtain ⟨m, i, hd, hm, hL, hi1, hi2, hw⟩ := parts32 x hnum hz
  rw [hs] at hd
  have d1 : double.signWeight = 9223372036854775808 := by kernel_rfl
  have d2 : double.binade = 4503599627370496 := by kernel_rfl
  have d3 : double.infRung = 9218868437227405312 := by kernel_rfl
  have d4 : double.leastPlace = -1074 := by kernel_rfl
  have d5 : double.fractionBits = 52 := rfl
  obtain ⟨e, he⟩ : ∃ e, e = 52 - m.log2 := ⟨_, rfl⟩
  obtain ⟨K, hK⟩ : ∃ K, K = m * 2 ^ e := ⟨_, rfl⟩
  have hK1 : 4503599627370496 ≤ K := by
    have a : 2 ^ m.log2 ≤ m := Nat.log2_self_le hm
    have := Nat.mul_le_mul_right (2 ^ e) a
    rw [← Nat.pow_add, show m.log2 + e = 52 by omega, ← hK] at this
    exact this
  have hK2 : K < 9007199254740992 := by
    have := Nat.mul_lt_mul_of_pos_right (pow_lt_log hm) (Nat.two_pow_pos e)
    rw [← Nat.pow_add, show m.log2 + 1 + e = 53 by omega, ← hK] at this
    exact this
  obtain ⟨p, hp⟩ : ∃ p : Nat, (p : Int) = i + m.log2 + 1022 := ⟨(i + m.log2 + 1022).toNat, by omega⟩
  have hw64 : FloatKind.f64.encode (.number s m i) = double.word s (p * 4503599627370496 + K) := by
    have := near_same double s hm i 0 (by rw [d5]; omega) (by rw [d4]; omega)
    rw [Nat.pow_zero, Nat.mul_one, d2, d3, d4, d5] at this
    have h0 : i - ((0 : Nat) : Int) = i := by omega
    rw [h0] at this
    have h1 : max (i + (m.log2 : Int) - ((52 : Nat) : Int)) (-1074) = i + m.log2 - 52 := Int.max_eq_left (by omega)
    rw [h1] at this
    have h2 : (i + (m.log2 : Int) - 52 - -1074).toNat = p := by omega
    have h3 : (i - (i + (m.log2 : Int) - 52)).toNat = e := by omega
    rw [h2, h3, ← hK] at this
    have h4 : min (p * 4503599627370496 + K) 9218868437227405312 = p * 4503599627370496 + K := Nat.min_eq_left (by omega)
    rw [h4] at this
    exact this
  obtain ⟨N, hN⟩ : ∃ N, N = p * 4503599627370496 + K := ⟨_, rfl⟩
  have hNb : N < 9218868437227405312 := by omega
  rw [← hN] at hw64
  obtain ⟨w1, w2⟩ := word64 s N hNb
  have hsg : (double.word s N / 9223372036854775808 % 2 == 1) = s := by
    unfold Format.word
    rw [d1]
    cases s
    · simp only [Bool.false_eq_true, if_false]
      have : (0 + N) / 9223372036854775808 % 2 = 0 := by omega
      have h2 : N / 9223372036854775808 % 2 = 0 := by omega
      first | (rw [this]; rfl) | (rw [h2]; rfl)
    · simp only [if_true]
      have : (9223372036854775808 + N) / 9223372036854775808 % 2 = 1 := by omega
      have h2 : (N + 9223372036854775808) / 9223372036854775808 % 2 = 1 := by omega
      first | (rw [this]; rfl) | (rw [h2]; rfl)
  have hwid : wid x = double.word s N := by
    unfold wid fconv
    rw [if_neg (by decide), hd]
    simp only
    rw [hw64, if_neg (by rw [isInf_f64_num (by rw [w1]; omega)]; simp)]
    simp only [Option.getD_some, canon_num w2]
  refine ⟨K, i - e, ?_, hK1, hK2, by omega, by omega⟩
  rw [hwid]
  unfold FloatKind.decode FloatKind.format Format.read
  simp only [d1, d2, d3, d4]
  rw [w1, if_neg (by omega), if_pos (by omega), hsg]
  have h3 : 4503599627370496 + N % 4503599627370496 = K := by omega
  have h4 : (-1074 : Int) + ((N / 4503599627370496 - 1 : Nat) : Int) = i - e := by omega
  rw [h3, h4]
theorem word_inj {s : Bool} {a b : Nat} (h : single.word s a = single.word s b) : a = b := by
  have e1 : single.signWeight = 2147483648 := by kernel_rfl
  unfold Format.word at h
  cases s <;> simp at h <;> omega
theorem signed_inj {s : Bool} {a b i j : Nat} (h : signed s a i = signed s b j) : a * 2 ^ i = b * 2 ^ j := by
  unfold signed at h
  simp only [Nat.shiftLeft_eq] at h
  cases s
  · exact Int.ofNat.inj h
  · exact Int.ofNat.inj (Int.neg_inj.1 h)
theorem read_inf (x : Nat) (h : x % 2147483648 = 2139095040) : FloatKind.f32.decode x = .infinity (x / 2147483648 % 2 == 1) := by
  have e1 : single.signWeight = 2147483648 := by kernel_rfl
  have e2 : single.binade = 8388608 := by kernel_rfl
  have e3 : single.infRung = 2139095040 := by kernel_rfl
  have e4 : single.leastPlace = -149 := by kernel_rfl
  unfold FloatKind.decode FloatKind.format Format.read
  simp only [e1, e2, e3, e4, h]
  rfl
theorem read_zero (x : Nat) (h : x % 2147483648 = 0) : FloatKind.f32.decode x = .number (x / 2147483648 % 2 == 1) 0 (-149) := by
  rw [read32 x (by omega), h]; rfl
theorem feq_form (x y : Nat) : feq .f32 x y = ((FloatKind.f32.decode x).order (FloatKind.f32.decode y) == some .eq) := rfl
theorem cmp_eq {a b : Int} (h : (some (compare a b) == some Ordering.eq) = true) : a = b := by
  have : compare a b = .eq := by simpa using h
  exact Int.compare_eq_eq.1 this
/-- Equal singles with equal signs have one word. -/
theorem feq_word {x y : Nat} (hx : isNan .f32 x = false) (hy : isNan .f32 y = false) (hs : x / 2147483648 % 2 = y / 2147483648 % 2) (h : feq .f32 x y = true) : x % 2147483648 = y % 2147483648 := by
  rw [isNan_f32] at hx hy
  simp only [decide_eq_false_iff_not, Nat.not_lt] at hx hy
  rw [feq_form] at h
  have hsb : (y / 2147483648 % 2 == 1) = (x / 2147483648 % 2 == 1) := by rw [hs]
  by_cases ix : x % 2147483648 = 2139095040
  · rw [read_inf x ix] at h
    by_cases iy : y % 2147483648 = 2139095040
    · omega
    · exfalso
      by_cases zy : y % 2147483648 = 0
      · rw [read_zero y zy] at h
        cases hq : (x / 2147483648 % 2 == 1) <;> rw [hq] at h <;> simp [Datum.order] at h
      · obtain ⟨n, j, d, _⟩ := parts32 y (by omega) zy
        rw [d] at h
        cases hq : (x / 2147483648 % 2 == 1) <;> rw [hq] at h <;> simp [Datum.order] at h
  · by_cases iy : y % 2147483648 = 2139095040
    · exfalso
      rw [read_inf y iy] at h
      by_cases zx : x % 2147483648 = 0
      · rw [read_zero x zx] at h
        cases hq : (y / 2147483648 % 2 == 1) <;> rw [hq] at h <;> simp [Datum.order] at h
      · obtain ⟨n, j, d, _⟩ := parts32 x (by omega) zx
        rw [d] at h
        cases hq : (y / 2147483648 % 2 == 1) <;> rw [hq] at h <;> simp [Datum.order] at h
    · by_cases zx : x % 2147483648 = 0
      · by_cases zy : y % 2147483648 = 0
        · omega
        · exfalso
          obtain ⟨n, j, d, hn, _⟩ := parts32 y (by omega) zy
          rw [read_zero x zx, d, hsb] at h
          simp only [Datum.order] at h
          have := signed_inj (cmp_eq h)
          rw [Nat.zero_mul] at this
          have := Nat.mul_ne_zero hn (Nat.ne_of_gt (Nat.two_pow_pos (j - min (-149) j).toNat))
          omega
      · obtain ⟨m, i, d, hm, _, hi, _, hw⟩ := parts32 x (by omega) zx
        by_cases zy : y % 2147483648 = 0
        · exfalso
          rw [read_zero y zy, d, hsb] at h
          simp only [Datum.order] at h
          have := signed_inj (cmp_eq h)
          rw [Nat.zero_mul] at this
          have := Nat.mul_ne_zero hm (Nat.ne_of_gt (Nat.two_pow_pos (i - min i (-149)).toNat))
          omega
        · obtain ⟨n, j, d', hn, _, hj, _, hw'⟩ := parts32 y (by omega) zy
          rw [d, d', hsb] at h
          simp only [Datum.order] at h
          have he := signed_inj (cmp_eq h)
          have h1 := hw false (i - min i j).toNat
          have h2 := hw' false (j - min i j).toNat
          rw [he, show i - (((i - min i j).toNat : Nat) : Int) = j - (((j - min i j).toNat : Nat) : Int) by omega, h2] at h1
          exact (word_inj h1).symm
/-- The sign of a double's word. -/
theorem sgn64 (w : Nat) (s : Bool) (h : (∃ m i, FloatKind.f64.decode w = .number s m i) ∨ FloatKind.f64.decode w = .infinity s) : (w / 9223372036854775808 % 2 == 1) = s := by
  have e1 : double.signWeight = 9223372036854775808 := by kernel_rfl
  have e2 : double.binade = 4503599627370496 := by kernel_rfl
  have e3 : double.infRung = 9218868437227405312 := by kernel_rfl
  have e4 : double.leastPlace = -1074 := by kernel_rfl
  unfold FloatKind.decode FloatKind.format Format.read at h
  simp only [e1, e2, e3, e4] at h
  rcases h with ⟨m, i, h⟩ | h
  · split at h
    · cases h; rfl
    · split at h
      · cases h; rfl
      · split at h <;> cases h
  · split at h
    · cases h
    · split at h
      · cases h
      · split at h
        · cases h; rfl
        · cases h
theorem z_p : wid 0 = 0 := by kernel_rfl
theorem z_n : wid 2147483648 = 9223372036854775808 := by kernel_rfl
theorem i_p : wid 2139095040 = 9218868437227405312 := by kernel_rfl
theorem i_n : wid 4286578688 = 18442240474082181120 := by kernel_rfl
theorem wid_sign {x : Nat} (hx : x < 4294967296) (hn : isNan .f32 x = false) : (wid x / 9223372036854775808 % 2 == 1) = (x / 2147483648 % 2 == 1) ∧ isNan .f64 (wid x) = false := by
  rw [isNan_f32] at hn
  simp only [decide_eq_false_iff_not, Nat.not_lt] at hn
  by_cases ix : x % 2147483648 = 2139095040
  · have : x = 2139095040 ∨ x = 4286578688 := by omega
    rcases this with rfl | rfl
    · rw [i_p]; exact ⟨by decide, by kernel_rfl⟩
    · rw [i_n]; exact ⟨by decide, by kernel_rfl⟩
  · by_cases zx : x % 2147483648 = 0
    · have : x = 0 ∨ x = 2147483648 := by omega
      rcases this with rfl | rfl
      · rw [z_p]; exact ⟨by decide, by kernel_rfl⟩
      · rw [z_n]; exact ⟨by decide, by kernel_rfl⟩
    · obtain ⟨K, q, hd, _⟩ := wid_dec x _ (by omega) zx rfl
      exact ⟨sgn64 _ _ (.inl ⟨K, q, hd⟩), by unfold isNan; rw [hd]; rfl⟩
theorem wrap_neg (n : Nat) : decide (IntKind.i64.wrap ((n : Nat) : Int) < 0) = (n / 9223372036854775808 % 2 == 1) := by
  rw [IntKind.wrap_i64]
  by_cases h : n / 9223372036854775808 % 2 = 1
  · rw [h]; exact decide_eq_true (by omega)
  · have : n / 9223372036854775808 % 2 = 0 := by omega
    rw [this]; exact decide_eq_false (by omega)
/-- One word, or both no number. -/
def sameW (a b : Nat) : Bool := if isNan .f32 a = true then isNan .f32 b else if isNan .f32 b = true then false else decide (a = b)
theorem sameS (a b : Nat) (ha : a < 4294967296) (hb : b < 4294967296) : spec_l01Same_g a b = some (sameW a b) := by
  have hq : isNan .f32 2143289344 = true := by kernel_rfl
  simp only [spec_l01Same_g, spec_l01Same_T, Tree.run, bitsS a ha, bitsS b hb, Option.bind_some]
  unfold bitsV sameW
  cases h1 : isNan .f32 a with
  | true =>
    cases h2 : isNan .f32 b with
    | true => simp
    | false =>
      have : b ≠ 2143289344 := fun e => by rw [e, hq] at h2; cases h2
      simp; omega
  | false =>
    cases h2 : isNan .f32 b with
    | true =>
      have : a ≠ 2143289344 := fun e => by rw [e, hq] at h1; cases h1
      simp; omega
    | false =>
      simp; omega
theorem signI (x : Nat) (hx : x < 4294967296) (hn : isNan .f32 x = false) : math_Signbit_g (wid x) = some (x / 2147483648 % 2 == 1) := by
  obtain ⟨h1, h2⟩ := wid_sign hx hn
  simp only [math_Signbit_g, math_Signbit_T, Tree.run, h2, Bool.not_false, if_true, wrap_neg, h1]
theorem sameI (a b : Nat) (ha : a < 4294967296) (hb : b < 4294967296) : impl_SameNumber_g a b = some (sameW a b) := by
  unfold sameW
  cases h1 : isNan .f32 a with
  | true =>
    cases h2 : isNan .f32 b with
    | true => simp [impl_SameNumber_g, impl_SameNumber_T, Tree.run, feq_nan h1, feq_nan h2]
    | false => simp [impl_SameNumber_g, impl_SameNumber_T, Tree.run, feq_nan h1, feq_self h2]
  | false =>
    cases h2 : isNan .f32 b with
    | true => simp [impl_SameNumber_g, impl_SameNumber_T, Tree.run, feq_self h1, feq_nan h2]
    | false =>
      have s1 := signI a ha h1
      have s2 := signI b hb h2
      by_cases e : a = b
      · subst e
        simp [impl_SameNumber_g, impl_SameNumber_T, Tree.run, feq_self h1, s1]
      · cases hf : feq .f32 a b with
        | false => simp [impl_SameNumber_g, impl_SameNumber_T, Tree.run, feq_self h1, feq_self h2, hf, e]
        | true =>
          have hs : a / 2147483648 % 2 ≠ b / 2147483648 % 2 := fun hs => by
            have := feq_word h1 h2 hs hf
            omega
          have hb2 : ((a / 2147483648 % 2 == 1) == (b / 2147483648 % 2 == 1)) = false := by
            have q1 : a / 2147483648 % 2 = 0 ∨ a / 2147483648 % 2 = 1 := by omega
            have q2 : b / 2147483648 % 2 = 0 ∨ b / 2147483648 % 2 = 1 := by omega
            rcases q1 with q1 | q1 <;> rcases q2 with q2 | q2 <;> rw [q1, q2] <;> first | rfl | (exfalso; omega)
          simp only [impl_SameNumber_g, impl_SameNumber_T, Tree.run, feq_self h1, feq_self h2, hf, s1, s2, Option.bind_some, Bool.not_true, Bool.false_eq_true, if_false, if_true, hb2, e, decide_false]
end Go.Proofs.Ythdmkdkbfhoahaa.AM
