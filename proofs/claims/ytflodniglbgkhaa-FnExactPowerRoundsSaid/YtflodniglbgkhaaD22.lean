/- The root of what is above nothing is above nothing. -/
import Derived.Test.YtflodniglbgkhaaD21
set_option linter.unusedSimpArgs false
set_option linter.unusedVariables false
namespace Go.Proofs.Ytflodniglbgkhaa.AM
open Ieee
set_option maxRecDepth 4000

theorem cut_ge (neg : Bool) (n drop : Nat) : n / 2 ^ drop ≤ Toward.even.cut neg n drop := by
  unfold Toward.cut
  simp only [Nat.shiftLeft_eq, Nat.one_mul]
  have h1 : 2 ^ min drop (n.log2 + 2) ≤ 2 ^ drop := Nat.pow_le_pow_right (by omega) (Nat.min_le_left _ _)
  have h2 : n / 2 ^ drop ≤ n / 2 ^ min drop (n.log2 + 2) := Nat.div_le_div_left h1 (Nat.two_pow_pos _)
  exact Nat.le_trans h2 (Nat.le_add_right _ _)
/-- The rung of a number that has digits to spare. -/
theorem rung_ge (f : Format) (s : Bool) (m : Nat) (i : Int) (K : Nat) (hm : m ≠ 0) (hL : f.fractionBits ≤ m.log2) (hK : i + m.log2 - f.fractionBits = K + f.leastPlace) (hinf : K * f.binade + 2 ^ (f.fractionBits + 1) ≤ f.infRung) :
    ∃ r, f.write (.number s m i) = f.word s r ∧ K * f.binade + 2 ^ f.fractionBits ≤ r ∧ r ≤ K * f.binade + 2 ^ (f.fractionBits + 1) := by
  unfold Format.write Format.nearest
  simp only
  rw [if_neg hm]
  have hlast : max (i + (m.log2 : Int) - (f.fractionBits : Int)) f.leastPlace = K + f.leastPlace := by rw [hK]; exact Int.max_eq_left (by omega)
  have hk := kept_le f s m i (K + f.leastPlace) hm (by omega)
  have hg : 2 ^ f.fractionBits ≤ Toward.even.cut s (m <<< (i - (K + f.leastPlace)).toNat) (K + f.leastPlace - i).toNat := by
    have h0 : (i - ((K : Int) + f.leastPlace)).toNat = 0 := by omega
    have hd : ((K : Int) + f.leastPlace - i).toNat = m.log2 - f.fractionBits := by omega
    rw [h0, hd, show m <<< 0 = m from rfl]
    refine Nat.le_trans ?_ (cut_ge s m (m.log2 - f.fractionBits))
    rw [Nat.le_div_iff_mul_le (Nat.two_pow_pos _), ← Nat.pow_add, show f.fractionBits + (m.log2 - f.fractionBits) = m.log2 by omega]
    exact Nat.log2_self_le hm
  have hn : ((K : Int) + f.leastPlace - f.leastPlace).toNat = K := by omega
  rw [hlast, hn]
  refine ⟨_, rfl, ?_, ?_⟩
  · rw [Nat.min_eq_left (Nat.le_trans (Nat.add_le_add_left hk _) hinf)]
    exact Nat.add_le_add_left hg _
  · exact Nat.le_trans (Nat.min_le_left _ _) (Nat.add_le_add_left hk _)
theorem rootFrom_ge (n : Nat) : ∀ (todo root : Nat), root ≤ Datum.rootFrom n todo root
  | 0, root => Nat.le_refl _
  | todo + 1, root => by
    unfold Datum.rootFrom
    simp only
    split
    · exact Nat.le_trans (Nat.le_add_right _ _) (rootFrom_ge n todo _)
    · exact rootFrom_ge n todo _
theorem root_ge (n t : Nat) (h : 2 ^ t * 2 ^ t ≤ n) : 2 ^ t ≤ Datum.rootFrom n (t + 1) 0 := by
  unfold Datum.rootFrom
  simp only [Nat.zero_add, Nat.shiftLeft_eq, Nat.one_mul]
  rw [if_pos h]
  exact rootFrom_ge n t _
/-- What a single that is a number widens to. -/
theorem wid_dec (x : Nat) (s : Bool) (hnum : x % 2147483648 < 2139095040) (hz : x % 2147483648 ≠ 0) (hs : (x / 2147483648 % 2 == 1) = s) :
    ∃ K q, FloatKind.f64.decode (wid x) = .number s K q ∧ 4503599627370496 ≤ K ∧ K < 9007199254740992 ∧ -201 ≤ q ∧ q ≤ 104 := by
  obtain ⟨m, i, hd, hm, hL, hi1, hi2, hw⟩ := parts32 x hnum hz
  rw [hs] at hd
  have d1 : double.signWeight = 9223372036854775808 := by kernel_rfl
  have d2 : double.binade = 4503599627370496 := by kernel_rfl
  have d3 : double.infRung = 9218868437227405312 := by kernel_rfl
  have d4 : double.leastPlace = -1074 := by kernel_rfl
  have d5 : double.fractionBits = 52 := rfl
  obtain ⟨e, he⟩ : ∃ e, e = 52 - m.log2 := ⟨_, rfl⟩
  obtain ⟨K, hK⟩ : ∃ K, K = m * 2 ^ e := ⟨_, rfl⟩
  have hK1 : 4503599627370496 ≤ K := by
    have a : 2 ^ m.log2 ≤ m := Nat.log2_self_le hm
    have := Nat.mul_le_mul_right (2 ^ e) a
    rw [← Nat.pow_add, show m.log2 + e = 52 by omega, ← hK] at this
    exact this
  have hK2 : K < 9007199254740992 := by
    have := Nat.mul_lt_mul_of_pos_right (pow_lt_log hm) (Nat.two_pow_pos e)
    rw [← Nat.pow_add, show m.log2 + 1 + e = 53 by omega, ← hK] at this
    exact this
  obtain ⟨p, hp⟩ : ∃ p : Nat, (p : Int) = i + m.log2 + 1022 := ⟨(i + m.log2 + 1022).toNat, by omega⟩
  have hw64 : FloatKind.f64.encode (.number s m i) = double.word s (p * 4503599627370496 + K) := by
    have := near_same double s hm i 0 (by rw [d5]; omega) (by rw [d4]; omega)
    rw [Nat.pow_zero, Nat.mul_one, d2, d3, d4, d5] at this
    have h0 : i - ((0 : Nat) : Int) = i := by omega
    rw [h0] at this
    have h1 : max (i + (m.log2 : Int) - ((52 : Nat) : Int)) (-1074) = i + m.log2 - 52 := Int.max_eq_left (by omega)
    rw [h1] at this
    have h2 : (i + (m.log2 : Int) - 52 - -1074).toNat = p := by omega
    have h3 : (i - (i + (m.log2 : Int) - 52)).toNat = e := by omega
    rw [h2, h3, ← hK] at this
    have h4 : min (p * 4503599627370496 + K) 9218868437227405312 = p * 4503599627370496 + K := Nat.min_eq_left (by omega)
    rw [h4] at this
    exact this
  obtain ⟨N, hN⟩ : ∃ N, N = p * 4503599627370496 + K := ⟨_, rfl⟩
  have hNb : N < 9218868437227405312 := by omega
  rw [← hN] at hw64
  obtain ⟨w1, w2⟩ := word64 s N hNb
  have hsg : (double.word s N / 9223372036854775808 % 2 == 1) = s := by
    unfold Format.word
    rw [d1]
    cases s
    · simp only [Bool.false_eq_true, if_false]
      have : (0 + N) / 9223372036854775808 % 2 = 0 := by omega
      have h2 : N / 9223372036854775808 % 2 = 0 := by omega
      first | (rw [this]; rfl) | (rw [h2]; rfl)
    · simp only [if_true]
      have : (9223372036854775808 + N) / 9223372036854775808 % 2 = 1 := by omega
      have h2 : (N + 9223372036854775808) / 9223372036854775808 % 2 = 1 := by omega
      first | (rw [this]; rfl) | (rw [h2]; rfl)
  have hwid : wid x = double.word s N := by
    unfold wid fconv
    rw [if_neg (by decide), hd]
    simp only
    rw [hw64, if_neg (by rw [isInf_f64_num (by rw [w1]; omega)]; simp)]
    simp only [Option.getD_some, canon_num w2]
  refine ⟨K, i - e, ?_, hK1, hK2, by omega, by omega⟩
  rw [hwid]
  unfold FloatKind.decode FloatKind.format Format.read
  simp only [d1, d2, d3, d4]
  rw [w1, if_neg (by omega), if_pos (by omega), hsg]
  have h3 : 4503599627370496 + N % 4503599627370496 = K := by omega
  have h4 : (-1074 : Int) + ((N / 4503599627370496 - 1 : Nat) : Int) = i - e := by omega
  rw [h3, h4]
/-- A rung above nothing is a number above nothing. -/
theorem pos_word (r : Nat) (h0 : 0 < r) (h : r < 2139095040) : fgrt .f32 r 0 = true ∧ sfin r = true := by
  have hmod : r % 2147483648 = r := Nat.mod_eq_of_lt (by omega)
  have hdiv : r / 2147483648 = 0 := Nat.div_eq_of_lt (by omega)
  obtain ⟨m, i, hd, hm, hL, hi1, hi2, hw⟩ := parts32 r (by rw [hmod]; exact h) (by rw [hmod]; omega)
  have hs : (r / 2147483648 % 2 == 1) = false := by rw [hdiv]; decide
  rw [hs] at hd
  have hzero : FloatKind.f32.decode 0 = .number false 0 (-149) := by kernel_rfl
  constructor
  · have hf : fgrt .f32 r 0 = ((FloatKind.f32.decode r).order (FloatKind.f32.decode 0) == some .gt) := rfl
    rw [hf, hd, hzero]
    simp only [Datum.order]
    have h1 : min i (-149) = -149 := Int.min_eq_right (by omega)
    have h2 : signed false 0 ((-149 : Int) - -149).toNat = 0 := by rfl
    rw [h1, h2]
    have h3 : 0 < m <<< (i - -149).toNat := by
      rw [Nat.shiftLeft_eq]; exact Nat.mul_pos (Nat.pos_of_ne_zero hm) (Nat.two_pow_pos _)
    have h4 : compare (signed false m (i - -149).toNat) 0 = .gt := by
      rw [Int.compare_eq_gt]
      unfold signed
      simp only [Bool.false_eq_true, if_false]
      omega
    rw [h4]; rfl
  · rw [sfin_iff]
    unfold isNum
    rw [hd]
noncomputable def rt2 (x : Nat) : Nat := (fconv .f64 (fsqrt (wid x)) .f32).getD 0
theorem rt2_ok (x : Nat) : fconv .f64 (fsqrt (wid x)) .f32 = some (rt2 x) := by
  obtain ⟨y, hy⟩ := sqrt_conv x
  unfold rt2
  rw [hy]; rfl
theorem rt2_of {x y : Nat} (h : fconv .f64 (fsqrt (wid x)) .f32 = some y) : rt2 x = y := by
  unfold rt2; rw [h]; rfl
theorem conv_inf : fconv .f64 (fsqrt (canon .f64 (FloatKind.f64.encode (.infinity false)))) .f32 = some 2139095040 := by kernel_rfl
theorem conv_ninf : fconv .f64 (fsqrt (canon .f64 (FloatKind.f64.encode (.infinity true)))) .f32 = some 2143289344 := by kernel_rfl
theorem conv_nan : fconv .f64 (fsqrt (qnan .f64)) .f32 = some 2143289344 := by kernel_rfl
theorem conv_qn : fconv .f64 (qnan .f64) .f32 = some 2143289344 := by kernel_rfl
theorem conv_p0 : fconv .f64 (fsqrt 0) .f32 = some 0 := by kernel_rfl
theorem conv_n0 : fconv .f64 (fsqrt 9223372036854775808) .f32 = some 2147483648 := by kernel_rfl
theorem w_p0 : wid 0 = 0 := by kernel_rfl
theorem inf_bad : (fgrt .f32 2139095040 0 && sfin 2139095040) = false := by kernel_rfl
theorem nan_bad : (fgrt .f32 2143289344 0 && sfin 2143289344) = false := by kernel_rfl
theorem p0_bad : (fgrt .f32 0 0 && sfin 0) = false := by kernel_rfl
theorem n0_bad : (fgrt .f32 2147483648 0 && sfin 2147483648) = false := by kernel_rfl
/-- A number above nothing, told by itself or by its root. -/
theorem root_test (x : Nat) : (sfin x && fgrt .f32 x 0) = (fgrt .f32 (rt2 x) 0 && sfin (rt2 x)) := by
  have hzero : FloatKind.f32.decode 0 = .number false 0 (-149) := by kernel_rfl
  have hf : fgrt .f32 x 0 = ((FloatKind.f32.decode x).order (FloatKind.f32.decode 0) == some .gt) := rfl
  have hz : ∀ (s : Bool) (e : Nat), signed s 0 e = 0 := fun s e => by unfold signed; cases s <;> simp
  have key : ∀ b, FloatKind.f64.format.sqrt b = ((FloatKind.f64.decode b).root 54).map FloatKind.f64.format.write := fun _ => rfl
  rw [sfin_iff]
  rcases read_f32 x with ⟨s, m, i, hd, hm, hi1, hi2⟩ | ⟨s, hd⟩ | ⟨s, f, hd⟩
  · have hn : isNum .f32 x = true := by unfold isNum; rw [hd]
    rw [hn, Bool.true_and]
    obtain ⟨s', m', i', k1, k2, k3⟩ := wid_read x hn
    by_cases hm0 : m = 0
    · subst hm0
      have h1 : fgrt .f32 x 0 = false := by
        rw [hf, hd, hzero]
        simp only [Datum.order, hz]
        rfl
      rw [h1]
      -- its double is nothing too
      have hw : wid x = double.word s 0 := by
        unfold wid fconv
        rw [if_neg (by decide), hd]
        simp only
        have he : FloatKind.f64.encode (.number s 0 i) = double.word s 0 := by
          show double.write _ = _
          unfold Format.write
          exact nearest_zero _ _ _
        rw [he]
        have hb := word64 s 0 (by omega)
        rw [if_neg (by rw [isInf_f64_num (by rw [hb.1]; omega)]; simp)]
        simp only [Option.getD_some, canon_num hb.2]
      cases s with
      | false =>
        have e0 : double.word false 0 = 0 := by kernel_rfl
        rw [rt2_of (y := 0) (by rw [hw, e0]; exact conv_p0), p0_bad]
      | true =>
        have e0 : double.word true 0 = 9223372036854775808 := by kernel_rfl
        rw [rt2_of (y := 2147483648) (by rw [hw, e0]; exact conv_n0), n0_bad]
    · -- not nothing
      have hlt : x % 2147483648 < 2139095040 := by
        rcases Nat.lt_or_ge (x % 2147483648) 2139095040 with h | h
        · exact h
        · exfalso
          have e1 : single.signWeight = 2147483648 := by kernel_rfl
          have e2 : single.binade = 8388608 := by kernel_rfl
          have e3 : single.infRung = 2139095040 := by kernel_rfl
          unfold FloatKind.decode FloatKind.format Format.read at hd
          simp only [e1, e2, e3] at hd
          rw [if_neg (by omega), if_neg (by omega)] at hd
          split at hd <;> cases hd
      have hx0 : x % 2147483648 ≠ 0 := fun h0 => by
        have hx := read32 x hlt
        rw [h0, if_pos (by omega)] at hx
        rw [hx] at hd
        cases hd
        exact hm0 rfl
      have hsx : s = (x / 2147483648 % 2 == 1) := by
        obtain ⟨m2, i2, hd2, _⟩ := parts32 x hlt hx0
        rw [hd2] at hd
        cases hd
        rfl
      cases hs : s with
      | true =>
        have h1 : fgrt .f32 x 0 = false := by
          rw [hf, hd, hzero, hs]
          simp only [Datum.order, hz]
          have h3 : 0 < m <<< (i - min i (-149)).toNat := by
            rw [Nat.shiftLeft_eq]; exact Nat.mul_pos (Nat.pos_of_ne_zero hm0) (Nat.two_pow_pos _)
          have h4 : compare (signed true m (i - min i (-149)).toNat) 0 = .lt := by
            rw [Int.compare_eq_lt]
            unfold signed
            simp only [if_true]
            omega
          rw [h4]; rfl
        rw [h1]
        -- the sign goes along
        have hs' : s' = true ∧ m' ≠ 0 := by
          obtain ⟨K, q, c1, c2, _⟩ := wid_dec x true hlt hx0 (by rw [← hsx, hs])
          rw [k1] at c1
          cases c1
          exact ⟨rfl, by omega⟩
        have hq : fsqrt (wid x) = qnan .f64 := by
          unfold fsqrt fres
          rw [key, k1, hs'.1]
          unfold Datum.root
          simp only [hs'.2, if_false, if_true, Option.map_none, Option.getD_none]
        rw [rt2_of (y := 2143289344) (by rw [hq]; exact conv_qn), nan_bad]
      | false =>
        have hsf : (x / 2147483648 % 2 == 1) = false := by rw [← hsx, hs]
        have h1 : fgrt .f32 x 0 = true := by
          rw [hf, hd, hzero, hs]
          simp only [Datum.order, hz]
          have h3 : 0 < m <<< (i - min i (-149)).toNat := by
            rw [Nat.shiftLeft_eq]; exact Nat.mul_pos (Nat.pos_of_ne_zero hm0) (Nat.two_pow_pos _)
          have h4 : compare (signed false m (i - min i (-149)).toNat) 0 = .gt := by
            rw [Int.compare_eq_gt]
            unfold signed
            simp only [Bool.false_eq_true, if_false]
            omega
          rw [h4]; rfl
        rw [h1]
        obtain ⟨K, q, c1, c2, c3, c4, c5⟩ := wid_dec x false hlt hx0 hsf
        have hK0 : K ≠ 0 := by omega
        have hKl : K.log2 = 52 := by
          have a1 : K.log2 < 53 := (Nat.log2_lt hK0).2 (by omega)
          have a2 : 52 ≤ K.log2 := (Nat.le_log2 hK0).2 (by omega)
          omega
        obtain ⟨e, he⟩ : ∃ e, e = 2 * 54 - K.log2 + ((q - ((2 * 54 - K.log2 : Nat) : Int)) % 2).toNat := ⟨_, rfl⟩
        have he2 : 56 ≤ e ∧ e ≤ 57 := by rw [hKl] at he; omega
        obtain ⟨n, hnn⟩ : ∃ n, n = K <<< e := ⟨_, rfl⟩
        have hn0 : n = K * 2 ^ e := by rw [hnn, Nat.shiftLeft_eq]
        have hnl : n.log2 = 52 + e := by rw [hn0, log_mul hK0, hKl]
        have hnz : n ≠ 0 := by rw [hn0]; exact Nat.mul_ne_zero hK0 (Nat.ne_of_gt (Nat.two_pow_pos e))
        have hnge : 2 ^ n.log2 ≤ n := Nat.log2_self_le hnz
        have hnlt := pow_lt_log hnz
        obtain ⟨g0, hg0⟩ : ∃ g0, g0 = Datum.rootFrom n (n.log2 / 2 + 1) 0 := ⟨_, rfl⟩
        have hlow : 2 ^ (n.log2 / 2) ≤ g0 := by
          rw [hg0]
          refine root_ge n _ (Nat.le_trans ?_ hnge)
          rw [← Nat.pow_add]
          exact Nat.pow_le_pow_right (by omega) (by omega)
        have hlow2 : 2 ^ 54 ≤ g0 := Nat.le_trans (Nat.pow_le_pow_right (by omega) (by omega)) hlow
        have hup : g0 < 2 ^ 55 := by
          have hr := rootFrom_le n (n.log2 / 2 + 1) 0 (Nat.zero_le _)
          rw [← hg0] at hr
          rcases Nat.lt_or_ge g0 (2 ^ 55) with h | h
          · exact h
          · exfalso
            have := Nat.mul_le_mul h h
            rw [← Nat.pow_add] at this
            have h2 : 2 ^ (n.log2 + 1) ≤ 2 ^ 110 := Nat.pow_le_pow_right (by omega) (by omega)
            omega
        obtain ⟨g, hg⟩ : ∃ g, g = 2 * g0 + (g0 * g0 != n).toNat := ⟨_, rfl⟩
        have hgb : 2 ^ 55 ≤ g ∧ g < 2 ^ 56 := by
          have : ∀ c : Bool, c.toNat ≤ 1 := fun c => by cases c <;> simp
          have := this (g0 * g0 != n)
          have h55 : (2 : Nat) ^ 55 = 2 * 2 ^ 54 := by decide
          have h56 : (2 : Nat) ^ 56 = 2 * 2 ^ 55 := by decide
          omega
        have hg00 : g ≠ 0 := by
          have := Nat.two_pow_pos 55
          omega
        have hgl : g.log2 = 55 := by
          have a1 : g.log2 < 56 := (Nat.log2_lt hg00).2 hgb.2
          have a2 : 55 ≤ g.log2 := (Nat.le_log2 hg00).2 hgb.1
          omega
        obtain ⟨P, hP⟩ : ∃ P : Int, P = (q - (e : Int)) / 2 - 1 := ⟨_, rfl⟩
        have hPb : -131 ≤ P ∧ P ≤ 24 := by omega
        have d2 : double.binade = 4503599627370496 := by kernel_rfl
        have d3 : double.infRung = 9218868437227405312 := by kernel_rfl
        have d4 : double.leastPlace = -1074 := by kernel_rfl
        have d5 : double.fractionBits = 52 := rfl
        obtain ⟨A, hA⟩ : ∃ A : Nat, (A : Int) = P + 1077 := ⟨(P + 1077).toNat, by omega⟩
        have p52 : (2 : Nat) ^ 52 = 4503599627370496 := by decide
        have p53 : (2 : Nat) ^ (52 + 1) = 9007199254740992 := by decide
        obtain ⟨r, r1, r2, r3⟩ := rung_ge double false g P A hg00 (by rw [d5]; omega) (by rw [d5, d4, hgl]; omega) (by rw [d2, d3, d5, p53]; omega)
        rw [d2, d5, p52] at r2
        rw [d2, d5, p53] at r3
        obtain ⟨w1, w2⟩ := word64 false r (by omega)
        have hfw : double.word false r = r := by unfold Format.word; simp
        have hsq : fsqrt (wid x) = r := by
          unfold fsqrt fres
          rw [key, c1]
          unfold Datum.root
          simp only [hK0, if_false, Bool.false_eq_true]
          rw [← he, ← hnn, ← hg0, ← hg, ← hP]
          simp only [Option.map_some, Option.getD_some]
          have : FloatKind.f64.format.write (.number false g P) = r := by rw [← hfw]; exact r1
          rw [this, ← hfw, canon_num w2]
        -- read again, and narrowed
        have d1 : double.signWeight = 9223372036854775808 := by kernel_rfl
        have hdec : FloatKind.f64.decode r = .number false (4503599627370496 + r % 4503599627370496) (-1074 + (r / 4503599627370496 - 1 : Nat)) := by
          unfold FloatKind.decode FloatKind.format Format.read
          simp only [d1, d2, d3, d4]
          have h1 : r % 9223372036854775808 = r := Nat.mod_eq_of_lt (by omega)
          rw [h1, if_neg (by omega), if_pos (by omega)]
          have h2 : r / 9223372036854775808 = 0 := Nat.div_eq_of_lt (by omega)
          have h5 : (0 % 2 == 1) = false := by decide
          rw [h2, h5]
        obtain ⟨M, hM⟩ : ∃ M, M = 4503599627370496 + r % 4503599627370496 := ⟨_, rfl⟩
        obtain ⟨J, hJ⟩ : ∃ J : Nat, J = r / 4503599627370496 - 1 := ⟨_, rfl⟩
        rw [← hM, ← hJ] at hdec
        have hMb : 4503599627370496 ≤ M ∧ M < 9007199254740992 := by omega
        have hJ1 : A ≤ J := by
          have : A + 1 ≤ r / 4503599627370496 := (Nat.le_div_iff_mul_le (by omega)).2 (by omega)
          omega
        have hJ2 : J ≤ A + 1 := by
          have : r / 4503599627370496 < A + 3 := (Nat.div_lt_iff_lt_mul (by omega)).2 (by omega)
          omega
        have hM0 : M ≠ 0 := by omega
        have hMl : M.log2 = 52 := by
          have a1 : M.log2 < 53 := (Nat.log2_lt hM0).2 (by omega)
          have a2 : 52 ≤ M.log2 := (Nat.le_log2 hM0).2 (by omega)
          omega
        have s2 : single.binade = 8388608 := by kernel_rfl
        have s3 : single.infRung = 2139095040 := by kernel_rfl
        have s4 : single.leastPlace = -149 := by kernel_rfl
        have s5 : single.fractionBits = 23 := rfl
        have p23 : (2 : Nat) ^ 23 = 8388608 := by decide
        have p24 : (2 : Nat) ^ (23 + 1) = 16777216 := by decide
        obtain ⟨Z, hZ⟩ : ∃ Z : Nat, (Z : Int) = -1074 + (J : Int) + 52 - 23 + 149 := ⟨(-1074 + (J : Int) + 52 - 23 + 149).toNat, by omega⟩
        have hZb : Z ≤ 253 := by clear hgb hlow hlow2 hup r2 r3 hnlt hnge; omega
        have hz1 : Z * 8388608 + 16777216 ≤ 2139095040 := by
          have := Nat.mul_le_mul_right 8388608 hZb
          exact Nat.le_trans (Nat.add_le_add_right this _) (by decide)
        obtain ⟨y, y1, y2, y3⟩ := rung_ge single false M (-1074 + (J : Int)) Z hM0 (by rw [s5]; omega) (by rw [s5, s4, hMl]; omega) (by rw [s2, s3, s5, p24]; exact hz1)
        rw [s2, s5, p23] at y2
        rw [s2, s5, p24] at y3
        have hfy : single.word false y = y := by unfold Format.word; simp
        have hylt : y < 2139095040 := by omega
        obtain ⟨t1, t2⟩ := pos_word y (by omega) hylt
        have hny : isNan .f32 y = false := by rw [isNan_f32]; simp; omega
        have hconv : fconv .f64 (fsqrt (wid x)) .f32 = some y := by
          rw [hsq]
          unfold fconv
          rw [if_neg (by decide), hdec]
          simp only
          have : FloatKind.f32.encode (.number false M (-1074 + (J : Int))) = y := by rw [← hfy]; exact y1
          rw [this]
          have h2 : (FloatKind.f32.decode y).isInfinity = false := by
            rw [read32 y (by rw [Nat.mod_eq_of_lt (by omega)]; exact hylt)]
            split <;> rfl
          rw [if_neg (by rw [h2]; simp), canon_num hny]
        rw [rt2_of hconv, t1, t2]
        rfl
  · have hn : isNum .f32 x = false := by unfold isNum; rw [hd]
    rw [hn, Bool.false_and]
    have hw : wid x = canon .f64 (FloatKind.f64.encode (.infinity s)) := by
      unfold wid fconv
      rw [if_neg (by decide), hd]; rfl
    cases s with
    | false => rw [rt2_of (by rw [hw]; exact conv_inf), inf_bad]
    | true => rw [rt2_of (by rw [hw]; exact conv_ninf), nan_bad]
  · have hn : isNum .f32 x = false := by unfold isNum; rw [hd]
    rw [hn, Bool.false_and]
    have hw : wid x = qnan .f64 := by
      unfold wid fconv
      rw [if_neg (by decide), hd]; rfl
    rw [rt2_of (by rw [hw]; exact conv_nan), nan_bad]
end Go.Proofs.Ytflodniglbgkhaa.AM
