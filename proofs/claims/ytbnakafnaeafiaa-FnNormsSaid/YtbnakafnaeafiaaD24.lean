/- A single's absolute value by way of doubles: its word without the sign. -/
import Derived.Test.YtbnakafnaeafiaaBase
import Derived.Test.YtbnakafnaeafiaaD18
set_option linter.unusedSimpArgs false
set_option linter.unusedVariables false
namespace Go.Proofs.Ytbnakafnaeafiaa.AM

open Ieee

theorem pow_lt_log {m : Nat} (h : m ≠ 0) : m < 2 ^ (m.log2 + 1) := (Nat.log2_lt h).1 (by omega)
theorem word64 (s : Bool) (r : Nat) (h : r < 9218868437227405312) : (double.word s r) % 9223372036854775808 = r ∧ isNan .f64 (double.word s r) = false := by
  have e1 : double.signWeight = 9223372036854775808 := by kernel_rfl
  have hm : (double.word s r) % 9223372036854775808 = r := by
    unfold Format.word
    rw [e1]
    split <;> omega
  exact ⟨hm, by rw [isNan_f64, hm]; simp; omega⟩
theorem rootFrom_le (n : Nat) : ∀ (todo root : Nat), root * root ≤ n → Datum.rootFrom n todo root * Datum.rootFrom n todo root ≤ n
  | 0, root, h => h
  | todo + 1, root, h => by
    unfold Datum.rootFrom
    simp only
    split
    · rename_i h2; exact rootFrom_le n todo _ h2
    · exact rootFrom_le n todo _ h

theorem log_mul {m : Nat} (hm : m ≠ 0) (e : Nat) : (m * 2 ^ e).log2 = m.log2 + e := by
  have h1 : m * 2 ^ e ≠ 0 := Nat.mul_ne_zero hm (Nat.ne_of_gt (Nat.two_pow_pos e))
  have a : 2 ^ m.log2 ≤ m := Nat.log2_self_le hm
  have b := pow_lt_log hm
  have h2 : m.log2 + e ≤ (m * 2 ^ e).log2 := by
    rw [Nat.le_log2 h1, Nat.pow_add]
    exact Nat.mul_le_mul_right _ a
  have h3 : (m * 2 ^ e).log2 < m.log2 + e + 1 := by
    rw [Nat.log2_lt h1, show m.log2 + e + 1 = m.log2 + 1 + e by omega, Nat.pow_add]
    exact Nat.mul_lt_mul_of_pos_right b (Nat.two_pow_pos e)
  omega
theorem cut_mul (neg : Bool) {a : Nat} (ha : a ≠ 0) (d : Nat) : Toward.even.cut neg (a * 2 ^ d) d = a := by
  have hl := log_mul ha d
  have hmin : min d ((a * 2 ^ d).log2 + 2) = d := by omega
  unfold Toward.cut
  simp only [hmin, Nat.shiftLeft_eq, Nat.one_mul]
  have h1 : a * 2 ^ d / 2 ^ d = a := Nat.mul_div_cancel _ (Nat.two_pow_pos d)
  have h2 : a * 2 ^ d % 2 ^ d = 0 := Nat.mul_mod_left _ _
  have h3 : (2 ^ d == 2 * 0) = false := by
    have := Nat.two_pow_pos d
    simp
  rw [h1, h2, h3]
  simp
/-- What the format can hold is held as it is, however it is written. -/
theorem near_same (f : Format) (s : Bool) {m : Nat} (hm : m ≠ 0) (i : Int) (e : Nat) (hL : m.log2 ≤ f.fractionBits) (hi : f.leastPlace ≤ i) :
    f.nearest s (m * 2 ^ e) (i - e) = f.word s (min ((max (i + m.log2 - f.fractionBits) f.leastPlace - f.leastPlace).toNat * f.binade + m * 2 ^ (i - max (i + m.log2 - f.fractionBits) f.leastPlace).toNat) f.infRung) := by
  have h1 : m * 2 ^ e ≠ 0 := Nat.mul_ne_zero hm (Nat.ne_of_gt (Nat.two_pow_pos e))
  unfold Format.nearest
  rw [if_neg h1, log_mul hm e]
  simp only
  have hlast : (i - (e : Int)) + ((m.log2 + e : Nat) : Int) - (f.fractionBits : Int) = i + (m.log2 : Int) - f.fractionBits := by omega
  rw [hlast]
  obtain ⟨last, hl⟩ : ∃ last, last = max (i + (m.log2 : Int) - (f.fractionBits : Int)) f.leastPlace := ⟨_, rfl⟩
  rw [← hl]
  have hle : last ≤ i := by omega
  have hk : Toward.even.cut s ((m * 2 ^ e) <<< (i - e - last).toNat) (last - (i - e)).toNat = m * 2 ^ (i - last).toNat := by
    rw [Nat.shiftLeft_eq]
    by_cases h : last ≤ i - e
    · have h0 : (last - (i - (e : Int))).toNat = 0 := by omega
      rw [h0, cut_exact, Nat.mul_assoc, ← Nat.pow_add]
      congr 2
      omega
    · have h0 : (i - (e : Int) - last).toNat = 0 := by omega
      rw [h0, Nat.pow_zero, Nat.mul_one]
      have h2 : e = (i - last).toNat + (last - (i - e)).toNat := by omega
      have h3 : m * 2 ^ e = (m * 2 ^ (i - last).toNat) * 2 ^ (last - (i - e)).toNat := by
        rw [Nat.mul_assoc, ← Nat.pow_add]
        congr 2
      rw [h3, cut_mul s (Nat.mul_ne_zero hm (Nat.ne_of_gt (Nat.two_pow_pos _)))]
  rw [hk]

theorem read32 (x : Nat) (h : x % 2147483648 < 2139095040) : FloatKind.f32.decode x = if x % 2147483648 < 8388608 then .number (x / 2147483648 % 2 == 1) (x % 2147483648) (-149) else .number (x / 2147483648 % 2 == 1) (8388608 + x % 2147483648 % 8388608) (-149 + (x % 2147483648 / 8388608 - 1 : Nat)) := by
  have e1 : single.signWeight = 2147483648 := by kernel_rfl
  have e2 : single.binade = 8388608 := by kernel_rfl
  have e3 : single.infRung = 2139095040 := by kernel_rfl
  have e4 : single.leastPlace = -149 := by kernel_rfl
  unfold FloatKind.decode FloatKind.format Format.read
  simp only [e1, e2, e3, e4]
  split
  · rfl
  · first | rfl | rw [if_pos h]
/-- A number of singles: its parts, and how it is written. -/
theorem parts32 (x : Nat) (h : x % 2147483648 < 2139095040) (h0 : x % 2147483648 ≠ 0) : ∃ m i, FloatKind.f32.decode x = .number (x / 2147483648 % 2 == 1) m i ∧ m ≠ 0 ∧ m.log2 ≤ 23 ∧ -149 ≤ i ∧ i ≤ 104 ∧
    ∀ (s : Bool) (e : Nat), single.nearest s (m * 2 ^ e) (i - e) = single.word s (x % 2147483648) := by
  have e2 : single.binade = 8388608 := by kernel_rfl
  have e3 : single.infRung = 2139095040 := by kernel_rfl
  have e4 : single.leastPlace = -149 := by kernel_rfl
  have e5 : single.fractionBits = 23 := rfl
  rw [read32 x h]
  obtain ⟨r, hr⟩ : ∃ r, r = x % 2147483648 := ⟨_, rfl⟩
  rw [← hr] at h h0 ⊢
  by_cases hs : r < 8388608
  · rw [if_pos hs]
    have hL : r.log2 < 23 := (Nat.log2_lt h0).2 hs
    refine ⟨r, -149, rfl, h0, by omega, by omega, by omega, fun s e => ?_⟩
    rw [near_same single s h0 (-149) e (by rw [e5]; omega) (by rw [e4]; omega), e2, e3, e4, e5]
    have h1 : max ((-149 : Int) + (r.log2 : Int) - ((23 : Nat) : Int)) (-149) = -149 := by omega
    have h2 : ((-149 : Int) - -149).toNat = 0 := by omega
    have h3 : min (0 * 8388608 + r * 2 ^ 0) 2139095040 = r := by
      rw [Nat.zero_mul, Nat.pow_zero, Nat.mul_one, Nat.zero_add]
      exact Nat.min_eq_left (by omega)
    rw [h1, h2, h3]
  · rw [if_neg hs]
    obtain ⟨m, hm⟩ : ∃ m, m = 8388608 + r % 8388608 := ⟨_, rfl⟩
    have hm0 : m ≠ 0 := by omega
    have hL : m.log2 = 23 := by
      have h1 : m.log2 < 24 := (Nat.log2_lt hm0).2 (by omega)
      have h2 : 23 ≤ m.log2 := (Nat.le_log2 hm0).2 (by omega)
      omega
    rw [← hm]
    refine ⟨m, _, rfl, hm0, by omega, by omega, by omega, fun s e => ?_⟩
    rw [near_same single s hm0 _ e (by rw [e5]; omega) (by rw [e4]; omega), e2, e3, e4, e5, hL]
    obtain ⟨q, hq⟩ : ∃ q, q = r / 8388608 := ⟨_, rfl⟩
    rw [← hq]
    have h1 : max ((-149 : Int) + ((q - 1 : Nat) : Int) + ((23 : Nat) : Int) - ((23 : Nat) : Int)) (-149) = -149 + ((q - 1 : Nat) : Int) := by omega
    rw [h1]
    have h2 : ((-149 : Int) + ((q - 1 : Nat) : Int) - -149).toNat = q - 1 := by omega
    have h3 : ((-149 : Int) + ((q - 1 : Nat) : Int) - (-149 + ((q - 1 : Nat) : Int))).toNat = 0 := by omega
    have h5 : (q - 1) * 8388608 + m = r := by
      have hdm := Nat.div_add_mod r 8388608
      rw [← hq] at hdm
      have hq1 : 1 ≤ q := by rw [hq]; exact (Nat.le_div_iff_mul_le (by omega)).2 (by omega)
      obtain ⟨q', rfl⟩ : ∃ q', q = q' + 1 := ⟨q - 1, by omega⟩
      rw [Nat.add_sub_cancel]
      omega
    have h4 : min ((q - 1) * 8388608 + m * 2 ^ 0) 2139095040 = r := by
      rw [Nat.pow_zero, Nat.mul_one, h5]
      exact Nat.min_eq_left (by omega)
    rw [h2, h3, h4]

def size32 (x : Nat) : Nat := if (fless .f32 x 0 || feq .f32 x 0) = true then fsub .f32 0 x else x
theorem abs_p0 : fconv .f64 (fabs (wid 0)) .f32 = some (size32 0) := by kernel_rfl
theorem abs_n0 : fconv .f64 (fabs (wid 2147483648)) .f32 = some (size32 2147483648) := by kernel_rfl
theorem abs_pi : fconv .f64 (fabs (wid 2139095040)) .f32 = some (size32 2139095040) := by kernel_rfl
theorem abs_ni : fconv .f64 (fabs (wid 4286578688)) .f32 = some (size32 4286578688) := by kernel_rfl
theorem abs_nan : fconv .f64 (fabs (wid (qnan .f32))) .f32 = some (size32 (qnan .f32)) := by kernel_rfl
set_option maxHeartbeats 1000000 in
/-- The absolute value by way of doubles is the one by a test. -/
theorem abs_size (x : Nat) (hx : x < 4294967296) (hc : canon .f32 x = x) : fconv .f64 (fabs (wid x)) .f32 = some (size32 x) := by
  have e1 : single.signWeight = 2147483648 := by kernel_rfl
  by_cases hnum : x % 2147483648 < 2139095040
  case neg =>
    by_cases hi : x % 2147483648 = 2139095040
    · have : x = 2139095040 ∨ x = 4286578688 := by omega
      rcases this with rfl | rfl
      · exact abs_pi
      · exact abs_ni
    · have hn : isNan .f32 x = true := by rw [isNan_f32]; simp; omega
      rw [canon_nan hn] at hc
      rw [← hc]
      exact abs_nan
  by_cases hz : x % 2147483648 = 0
  · have : x = 0 ∨ x = 2147483648 := by omega
    rcases this with rfl | rfl
    · exact abs_p0
    · exact abs_n0
  obtain ⟨m, i, hd, hm, hL, hi1, hi2, hw⟩ := parts32 x hnum hz
  obtain ⟨r, hr⟩ : ∃ r, r = x % 2147483648 := ⟨_, rfl⟩
  rw [← hr] at hw hnum hz
  have hpos : single.word false r = r := by unfold Format.word; simp
  -- the double
  have d1 : double.signWeight = 9223372036854775808 := by kernel_rfl
  have d2 : double.binade = 4503599627370496 := by kernel_rfl
  have d3 : double.infRung = 9218868437227405312 := by kernel_rfl
  have d4 : double.leastPlace = -1074 := by kernel_rfl
  have d5 : double.fractionBits = 52 := rfl
  obtain ⟨e, he⟩ : ∃ e, e = 52 - m.log2 := ⟨_, rfl⟩
  obtain ⟨K, hK⟩ : ∃ K, K = m * 2 ^ e := ⟨_, rfl⟩
  have hK1 : 4503599627370496 ≤ K := by
    have a : 2 ^ m.log2 ≤ m := Nat.log2_self_le hm
    have := Nat.mul_le_mul_right (2 ^ e) a
    rw [← Nat.pow_add, show m.log2 + e = 52 by omega, ← hK] at this
    exact this
  have hK2 : K < 9007199254740992 := by
    have := Nat.mul_lt_mul_of_pos_right (pow_lt_log hm) (Nat.two_pow_pos e)
    rw [← Nat.pow_add, show m.log2 + 1 + e = 53 by omega, ← hK] at this
    exact this
  obtain ⟨p, hp⟩ : ∃ p : Nat, (p : Int) = i + m.log2 + 1022 := ⟨(i + m.log2 + 1022).toNat, by omega⟩
  have hw64 : ∀ s, FloatKind.f64.encode (.number s m i) = double.word s (p * 4503599627370496 + K) := fun s => by
    have := near_same double s hm i 0 (by rw [d5]; omega) (by rw [d4]; omega)
    rw [Nat.pow_zero, Nat.mul_one, d2, d3, d4, d5] at this
    have h0 : i - ((0 : Nat) : Int) = i := by omega
    rw [h0] at this
    have h1 : max (i + (m.log2 : Int) - ((52 : Nat) : Int)) (-1074) = i + m.log2 - 52 := by omega
    rw [h1] at this
    have h2 : (i + (m.log2 : Int) - 52 - -1074).toNat = p := by omega
    have h3 : (i - (i + (m.log2 : Int) - 52)).toNat = e := by omega
    rw [h2, h3, ← hK] at this
    have h4 : min (p * 4503599627370496 + K) 9218868437227405312 = p * 4503599627370496 + K := Nat.min_eq_left (by omega)
    rw [h4] at this
    exact this
  obtain ⟨w1, w2⟩ := word64 (x / 2147483648 % 2 == 1) (p * 4503599627370496 + K) (by omega)
  have hnan : ∀ y, y % 9223372036854775808 < 9218868437227405312 → isNan .f64 y = false := fun y hy => by rw [isNan_f64]; simp; omega
  have hwid : wid x = double.word (x / 2147483648 % 2 == 1) (p * 4503599627370496 + K) := by
    unfold wid fconv
    rw [if_neg (by decide), hd]
    simp only
    rw [hw64, if_neg (by rw [isInf_f64_num (by rw [w1]; omega)]; simp)]
    simp only [Option.getD_some, canon_num w2]
  have habs : fabs (wid x) = p * 4503599627370496 + K := by
    unfold fabs
    rw [hwid, w1, canon_num (hnan _ (by omega))]
  have hdec : FloatKind.f64.decode (p * 4503599627370496 + K) = .number false K (i - e) := by
    unfold FloatKind.decode FloatKind.format Format.read
    simp only [d1, d2, d3, d4]
    have h1 : (p * 4503599627370496 + K) % 9223372036854775808 = p * 4503599627370496 + K := by omega
    rw [h1, if_neg (by omega), if_pos (by omega)]
    have h2 : (p * 4503599627370496 + K) / 9223372036854775808 = 0 := by omega
    have h3 : 4503599627370496 + (p * 4503599627370496 + K) % 4503599627370496 = K := by omega
    have h4 : (-1074 : Int) + (((p * 4503599627370496 + K) / 4503599627370496 - 1 : Nat) : Int) = i - e := by omega
    have h5 : (0 % 2 == 1) = false := by decide
    rw [h2, h3, h4, h5]
  have hnot : isNan .f32 r = false := by rw [isNan_f32]; simp; omega
  have hconv : fconv .f64 (fabs (wid x)) .f32 = some r := by
    unfold fconv
    rw [if_neg (by decide), habs, hdec]
    simp only
    have h1 : FloatKind.f32.encode (.number false K (i - e)) = r := by
      have : single.nearest false K (i - e) = single.word false r := by rw [hK]; exact hw false e
      rw [hpos] at this
      exact this
    rw [h1]
    have h2 : (FloatKind.f32.decode r).isInfinity = false := by
      have : r % 2147483648 = r := by omega
      rw [read32 r (by omega)]
      split <;> rfl
    rw [if_neg (by rw [h2]; simp), canon_num hnot]
  rw [hconv]
  congr 1
  -- the test
  have hzero : FloatKind.f32.decode 0 = .number false 0 (-149) := by kernel_rfl
  have hord : FloatKind.f32.format.order x 0 = (FloatKind.f32.decode x).order (FloatKind.f32.decode 0) := rfl
  have hord2 : ∀ (s : Bool), Datum.order (.number s m i) (.number false 0 (-149)) = some (if s = true then .lt else .gt) := fun s => by
    simp only [Datum.order]
    have h1 : min i (-149) = -149 := by omega
    have h2 : signed false 0 ((-149 : Int) - -149).toNat = 0 := by rfl
    rw [h1, h2]
    have h3 : 0 < m <<< (i - -149).toNat := by
      rw [Nat.shiftLeft_eq]; exact Nat.mul_pos (Nat.pos_of_ne_zero hm) (Nat.two_pow_pos _)
    congr 1
    cases s with
    | true =>
      simp only [if_true]
      rw [Int.compare_eq_lt]
      unfold signed
      simp only [if_true]
      omega
    | false =>
      simp only [Bool.false_eq_true, if_false]
      rw [Int.compare_eq_gt]
      unfold signed
      simp only [Bool.false_eq_true, if_false]
      omega
  unfold size32 fless feq
  rw [hord, hd, hzero, hord2]
  cases hs : (x / 2147483648 % 2 == 1) with
  | false =>
    have hxr : x = r := by simp at hs; omega
    simp
    exact hxr.symm
  | true =>
    simp only [if_true]
    have hsub : fsub .f32 0 x = fres .f32 (((FloatKind.f32.decode 0).sum (FloatKind.f32.decode x).opposite).map FloatKind.f32.format.write) := rfl
    rw [show ((some Ordering.lt == some Ordering.lt) || (some Ordering.lt == some Ordering.eq)) = true from rfl]
    simp only [if_true]
    rw [hsub, hd, hzero, hs]
    simp only [Datum.opposite, Bool.not_true]
    obtain ⟨k, hk⟩ : ∃ k : Nat, (k : Int) = i + 149 := ⟨(i + 149).toNat, by omega⟩
    have hsum : Datum.sum (.number false 0 (-149)) (.number false m i) = some (.number false (m * 2 ^ k) (i - k)) := by
      simp only [Datum.sum]
      have h1 : min (-149 : Int) i = -149 := by omega
      have h2 : ((-149 : Int) - -149).toNat = 0 := by omega
      have h3 : (i - -149).toNat = k := by omega
      have h4 : i - (k : Int) = -149 := by omega
      rw [h1, h2, h3, h4]
      have h5 : signed false 0 0 + signed false m k = ((m * 2 ^ k : Nat) : Int) := by
        unfold signed
        simp [Nat.shiftLeft_eq]
      rw [h5]
      have h6 : m * 2 ^ k ≠ 0 := Nat.mul_ne_zero hm (Nat.ne_of_gt (Nat.two_pow_pos k))
      have h7 : ¬ ((m * 2 ^ k : Nat) : Int) = 0 := by omega
      have h8 : decide (((m * 2 ^ k : Nat) : Int) < 0) = false := decide_eq_false (by omega)
      rw [if_neg h7, Int.natAbs_natCast, h8]
    rw [hsum]
    have hwr : FloatKind.f32.format.write (.number false (m * 2 ^ k) (i - k)) = r := by
      have := hw false k
      rw [hpos] at this
      exact this
    simp only [fres, Option.map_some, Option.getD_some, hwr, canon_num hnot]



set_option maxHeartbeats 1000000 in
theorem abs_word (x : Nat) (hx : x < 4294967296) (hnum : x % 2147483648 < 2139095040) : fconv .f64 (fabs (wid x)) .f32 = some (x % 2147483648) ∧ size32 x = x % 2147483648 := by
  have hc : canon .f32 x = x := canon_num (by rw [isNan_f32]; simp; omega)
  have sz := abs_size x hx hc
  by_cases hz : x % 2147483648 = 0
  · have : x = 0 ∨ x = 2147483648 := by omega
    have z0 : size32 0 = 0 := by kernel_rfl
    have z1 : size32 2147483648 = 0 := by kernel_rfl
    rcases this with rfl | rfl
    · rw [sz, z0]; exact ⟨rfl, rfl⟩
    · rw [sz, z1]; exact ⟨rfl, rfl⟩
  obtain ⟨m, i, hd, hm, hL, hi1, hi2, hw⟩ := parts32 x hnum hz
  obtain ⟨r, hr⟩ : ∃ r, r = x % 2147483648 := ⟨_, rfl⟩
  rw [← hr] at hw hnum hz ⊢
  have hpos : single.word false r = r := by unfold Format.word; simp
  -- the double
  have d1 : double.signWeight = 9223372036854775808 := by kernel_rfl
  have d2 : double.binade = 4503599627370496 := by kernel_rfl
  have d3 : double.infRung = 9218868437227405312 := by kernel_rfl
  have d4 : double.leastPlace = -1074 := by kernel_rfl
  have d5 : double.fractionBits = 52 := rfl
  obtain ⟨e, he⟩ : ∃ e, e = 52 - m.log2 := ⟨_, rfl⟩
  obtain ⟨K, hK⟩ : ∃ K, K = m * 2 ^ e := ⟨_, rfl⟩
  have hK1 : 4503599627370496 ≤ K := by
    have a : 2 ^ m.log2 ≤ m := Nat.log2_self_le hm
    have := Nat.mul_le_mul_right (2 ^ e) a
    rw [← Nat.pow_add, show m.log2 + e = 52 by omega, ← hK] at this
    exact this
  have hK2 : K < 9007199254740992 := by
    have := Nat.mul_lt_mul_of_pos_right (pow_lt_log hm) (Nat.two_pow_pos e)
    rw [← Nat.pow_add, show m.log2 + 1 + e = 53 by omega, ← hK] at this
    exact this
  obtain ⟨p, hp⟩ : ∃ p : Nat, (p : Int) = i + m.log2 + 1022 := ⟨(i + m.log2 + 1022).toNat, by omega⟩
  have hw64 : ∀ s, FloatKind.f64.encode (.number s m i) = double.word s (p * 4503599627370496 + K) := fun s => by
    have := near_same double s hm i 0 (by rw [d5]; omega) (by rw [d4]; omega)
    rw [Nat.pow_zero, Nat.mul_one, d2, d3, d4, d5] at this
    have h0 : i - ((0 : Nat) : Int) = i := by omega
    rw [h0] at this
    have h1 : max (i + (m.log2 : Int) - ((52 : Nat) : Int)) (-1074) = i + m.log2 - 52 := by omega
    rw [h1] at this
    have h2 : (i + (m.log2 : Int) - 52 - -1074).toNat = p := by omega
    have h3 : (i - (i + (m.log2 : Int) - 52)).toNat = e := by omega
    rw [h2, h3, ← hK] at this
    have h4 : min (p * 4503599627370496 + K) 9218868437227405312 = p * 4503599627370496 + K := Nat.min_eq_left (by omega)
    rw [h4] at this
    exact this
  obtain ⟨w1, w2⟩ := word64 (x / 2147483648 % 2 == 1) (p * 4503599627370496 + K) (by omega)
  have hnan : ∀ y, y % 9223372036854775808 < 9218868437227405312 → isNan .f64 y = false := fun y hy => by rw [isNan_f64]; simp; omega
  have hwid : wid x = double.word (x / 2147483648 % 2 == 1) (p * 4503599627370496 + K) := by
    unfold wid fconv
    rw [if_neg (by decide), hd]
    simp only
    rw [hw64, if_neg (by rw [isInf_f64_num (by rw [w1]; omega)]; simp)]
    simp only [Option.getD_some, canon_num w2]
  have habs : fabs (wid x) = p * 4503599627370496 + K := by
    unfold fabs
    rw [hwid, w1, canon_num (hnan _ (by omega))]
  have hdec : FloatKind.f64.decode (p * 4503599627370496 + K) = .number false K (i - e) := by
    unfold FloatKind.decode FloatKind.format Format.read
    simp only [d1, d2, d3, d4]
    have h1 : (p * 4503599627370496 + K) % 9223372036854775808 = p * 4503599627370496 + K := by omega
    rw [h1, if_neg (by omega), if_pos (by omega)]
    have h2 : (p * 4503599627370496 + K) / 9223372036854775808 = 0 := by omega
    have h3 : 4503599627370496 + (p * 4503599627370496 + K) % 4503599627370496 = K := by omega
    have h4 : (-1074 : Int) + (((p * 4503599627370496 + K) / 4503599627370496 - 1 : Nat) : Int) = i - e := by omega
    have h5 : (0 % 2 == 1) = false := by decide
    rw [h2, h3, h4, h5]
  have hnot : isNan .f32 r = false := by rw [isNan_f32]; simp; omega
  have hconv : fconv .f64 (fabs (wid x)) .f32 = some r := by
    unfold fconv
    rw [if_neg (by decide), habs, hdec]
    simp only
    have h1 : FloatKind.f32.encode (.number false K (i - e)) = r := by
      have : single.nearest false K (i - e) = single.word false r := by rw [hK]; exact hw false e
      rw [hpos] at this
      exact this
    rw [h1]
    have h2 : (FloatKind.f32.decode r).isInfinity = false := by
      have : r % 2147483648 = r := by omega
      rw [read32 r (by omega)]
      split <;> rfl
    rw [if_neg (by rw [h2]; simp), canon_num hnot]
  refine ⟨hconv, ?_⟩
  rw [sz] at hconv
  exact Option.some.inj hconv
theorem sfin_mod {x : Nat} (h : sfin x = true) : x % 2147483648 < 2139095040 := by
  rw [sfin_iff] at h
  have e1 : single.signWeight = 2147483648 := by kernel_rfl
  have e2 : single.binade = 8388608 := by kernel_rfl
  have e3 : single.infRung = 2139095040 := by kernel_rfl
  by_cases c : x % 2147483648 < 2139095040
  · exact c
  exfalso
  unfold isNum FloatKind.decode FloatKind.format Format.read at h
  simp only [e1, e2, e3] at h
  rw [if_neg (by omega), if_neg (by omega)] at h
  split at h
  · rename_i heq; split at heq <;> cases heq
  · cases h
theorem dec_mod (x : Nat) : FloatKind.f32.decode (x % 4294967296) = FloatKind.f32.decode x := by
  have e1 : single.signWeight = 2147483648 := by kernel_rfl
  have h1 : x % 4294967296 % 2147483648 = x % 2147483648 := by omega
  have h2 : x % 4294967296 / 2147483648 % 2 = x / 2147483648 % 2 := by omega
  unfold FloatKind.decode FloatKind.format Format.read
  simp only [e1, h1, h2]
theorem abs_any {x : Nat} (h : sfin x = true) : fconv .f64 (fabs (wid x)) .f32 = some (x % 2147483648) ∧ FloatKind.f32.decode (size32 x) = FloatKind.f32.decode (x % 2147483648) := by
  have hm := sfin_mod h
  obtain ⟨g1, g2⟩ := abs_word (x % 4294967296) (by omega) (by omega)
  have e : x % 4294967296 % 2147483648 = x % 2147483648 := by omega
  rw [e] at g1 g2
  have hw : wid (x % 4294967296) = wid x := by
    unfold wid fconv
    rw [if_neg (by decide), if_neg (by decide), dec_mod]
  rw [hw] at g1
  refine ⟨g1, ?_⟩
  have o1 : ∀ z, fless .f32 z 0 = ((FloatKind.f32.decode z).order (FloatKind.f32.decode 0) == some .lt) := fun _ => rfl
  have o2 : ∀ z, feq .f32 z 0 = ((FloatKind.f32.decode z).order (FloatKind.f32.decode 0) == some .eq) := fun _ => rfl
  have hs : ∀ z, fsub .f32 0 z = fres .f32 (((FloatKind.f32.decode 0).sum (FloatKind.f32.decode z).opposite).map FloatKind.f32.format.write) := fun _ => rfl
  unfold size32 at g2 ⊢
  rw [o1, o2, hs, dec_mod] at g2
  rw [o1, o2, hs]
  split
  · rename_i c
    rw [if_pos c] at g2
    rw [g2]
  · rename_i c
    rw [if_neg c] at g2
    rw [← g2, dec_mod]
end Go.Proofs.Ytbnakafnaeafiaa.AM
