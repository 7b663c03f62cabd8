/- Doubles made whole: no NaN comes up, and small ones are integers. -/
import Derived.Test.YtjadfgeemfdbmaaD25
set_option linter.unusedSimpArgs false
set_option linter.unusedVariables false
namespace Go.Proofs.Ytjadfgeemfdbmaa.AM
open Ieee

theorem word32d (s : Bool) (r : Nat) (h : r ≤ 2139095040) : (∃ m i, FloatKind.f32.decode (single.word s r) = .number s m i) ∨ FloatKind.f32.decode (single.word s r) = .infinity s := by
  have e1 : single.signWeight = 2147483648 := by kernel_rfl
  by_cases hi : r = 2139095040
  · right; rw [hi]; cases s <;> kernel_rfl
  · left
    obtain ⟨w1, _, _⟩ := word32 s r h
    have hd := read32 (single.word s r) (by omega)
    have hs : (single.word s r / 2147483648 % 2 == 1) = s := by
      unfold Format.word
      rw [e1]
      cases s with
      | false =>
        have : r / 2147483648 % 2 = 0 := by omega
        simp only [Bool.false_eq_true, if_false]
        rw [this]; rfl
      | true =>
        have : (2147483648 + r) / 2147483648 % 2 = 1 := by omega
        simp only [if_true]
        rw [this]; rfl
    rw [hs] at hd
    rw [hd]
    split
    · exact ⟨_, _, rfl⟩
    · exact ⟨_, _, rfl⟩
theorem fres_word (s : Bool) (m : Nat) (i : Int) : ∃ r, fres .f32 (some (FloatKind.f32.format.write (.number s m i))) = single.word s r ∧ r ≤ 2139095040 := by
  obtain ⟨r, h1, h2⟩ := write_word s m i
  have h1' : FloatKind.f32.format.write (.number s m i) = single.word s r := h1
  refine ⟨r, ?_, h2⟩
  obtain ⟨_, w2, _⟩ := word32 s r h2
  simp only [fres, Option.map_some, Option.getD_some, h1', canon_num w2]
theorem fres_inf (s : Bool) : fres .f32 (some (FloatKind.f32.format.write (.infinity s))) = single.word s 2139095040 := by cases s <;> kernel_rfl
theorem mul_word {x y : Nat} (hx : sfin x = true) (hy : sfin y = true) : ∃ s r, fmul .f32 x y = single.word s r ∧ r ≤ 2139095040 := by
  rw [sfin_iff] at hx hy
  unfold isNum at hx hy
  rw [mul_form]
  cases h1 : FloatKind.f32.decode x with
  | nan s f => rw [h1] at hx; cases hx
  | infinity s => rw [h1] at hx; cases hx
  | number s m i =>
    cases h2 : FloatKind.f32.decode y with
    | nan s f => rw [h2] at hy; cases hy
    | infinity s => rw [h2] at hy; cases hy
    | number t n j =>
      obtain ⟨r, g1, g2⟩ := fres_word (s ^^ t) (m * n) (i + j)
      exact ⟨_, r, g1, g2⟩
theorem half_word {s : Bool} {r : Nat} (h : r ≤ 2139095040) : ∃ t q, fadd .f32 (single.word s r) 1056964608 = single.word t q ∧ q ≤ 2139095040 := by
  have hh : FloatKind.f32.decode 1056964608 = .number false 8388608 (-24) := by kernel_rfl
  rw [add_form, hh]
  rcases word32d s r h with ⟨m, i, hd⟩ | hd
  · rw [hd]
    obtain ⟨k, hk⟩ : ∃ k, Datum.sum (.number s m i) (.number false 8388608 (-24)) = some k := ⟨_, rfl⟩
    obtain ⟨t, u, j, rfl⟩ : ∃ t u j, k = .number t u j := by
      simp only [Datum.sum, Option.some.injEq] at hk
      exact ⟨_, _, _, hk.symm⟩
    rw [hk]
    obtain ⟨q, g1, g2⟩ := fres_word t u j
    exact ⟨t, q, g1, g2⟩
  · rw [hd]
    exact ⟨s, 2139095040, fres_inf s, Nat.le_refl _⟩
theorem wid_infs (s : Bool) : isNan .f64 (wid (single.word s 2139095040)) = false := by cases s <;> kernel_rfl
theorem dec_infs (s : Bool) : FloatKind.f32.decode (single.word s 2139095040) = .infinity s := by cases s <;> kernel_rfl
theorem wid_word {s : Bool} {r : Nat} (h : r ≤ 2139095040) : isNan .f64 (wid (single.word s r)) = false := by
  rcases word32d s r h with ⟨m, i, hd⟩ | hd
  · have := wid_num (x := single.word s r) (by unfold isNum; rw [hd])
    rw [isNan_f64]
    exact decide_eq_false (by omega)
  · have e : wid (single.word s r) = wid (single.word s 2139095040) := by
      have h2 := dec_infs s
      unfold wid fconv
      rw [if_neg (by decide), if_neg (by decide), hd, h2]
    rw [e]
    exact wid_infs s
/-- What is made whole is no NaN. -/
theorem whole_num {x y : Nat} (hx : sfin x = true) (hy : sfin y = true) : isNan .f64 (wid (fadd .f32 (fmul .f32 x y) 1056964608)) = false := by
  obtain ⟨s, r, h1, h2⟩ := mul_word hx hy
  rw [h1]
  obtain ⟨t, q, h3, h4⟩ := half_word (s := s) h2
  rw [h3]
  exact wid_word h4
def flo (x : Nat) : Nat := canon .f64 (FloatKind.f64.encode ((FloatKind.f64.decode x).integral .down))
theorem flo_num {y : Nat} (h : isNan .f64 y = false) : isNan .f64 (flo y) = false := by
  have e1 : double.signWeight = 9223372036854775808 := by kernel_rfl
  have e3 : double.infRung = 9218868437227405312 := by kernel_rfl
  have wd : ∀ s r, r ≤ 9218868437227405312 → isNan .f64 (double.word s r) = false := fun s r hr => by
    rw [isNan_f64]
    refine decide_eq_false ?_
    unfold Format.word
    rw [e1]
    split <;> omega
  have key : isNan .f64 (FloatKind.f64.encode ((FloatKind.f64.decode y).integral .down)) = false := by
    unfold isNan at h
    cases hd : FloatKind.f64.decode y with
    | nan s f => rw [hd] at h; cases h
    | infinity s =>
      have : FloatKind.f64.encode (.infinity s) = double.word s 9218868437227405312 := by cases s <;> kernel_rfl
      show isNan .f64 (FloatKind.f64.encode (.infinity s)) = false
      rw [this]
      exact wd s _ (Nat.le_refl _)
    | number s m i =>
      obtain ⟨k, hk⟩ : ∃ k, Datum.integral .down (.number s m i) = .number s k 0 := ⟨_, rfl⟩
      rw [hk]
      show isNan .f64 (double.nearest s k 0) = false
      unfold Format.nearest
      simp only
      split
      · exact wd s 0 (by omega)
      · exact wd s _ (by rw [e3]; exact Nat.min_le_right _ _)
  unfold flo
  rw [canon_num key]
  exact key
/-- The absolute value's parts. -/
theorem abs_dec {y : Nat} (h : isNan .f64 y = false) : (∃ s m i, FloatKind.f64.decode y = .number s m i ∧ FloatKind.f64.decode (fabs y) = .number false m i) ∨ (∃ s, FloatKind.f64.decode y = .infinity s ∧ FloatKind.f64.decode (fabs y) = .infinity false) := by
  have e1 : double.signWeight = 9223372036854775808 := by kernel_rfl
  have hn : isNan .f64 (y % 9223372036854775808) = false := by
    rw [isNan_f64] at h ⊢
    simp only [decide_eq_false_iff_not] at h ⊢
    omega
  have ef : fabs y = y % 9223372036854775808 := by unfold fabs; rw [canon_num hn]
  rw [ef]
  have h1 : y % 9223372036854775808 % 9223372036854775808 = y % 9223372036854775808 := by omega
  have h2 : (y % 9223372036854775808 / 9223372036854775808 % 2 == 1) = false := by
    have : y % 9223372036854775808 / 9223372036854775808 = 0 := by omega
    rw [this]; rfl
  unfold isNan at h
  unfold FloatKind.decode FloatKind.format Format.read at h ⊢
  simp only [e1, h1, h2] at h ⊢
  split
  · exact .inl ⟨_, _, _, rfl, rfl⟩
  · split
    · exact .inl ⟨_, _, _, rfl, rfl⟩
    · split
      · exact .inr ⟨_, rfl, rfl⟩
      · rename_i c1 c2 c3
        rw [if_neg c1, if_neg c2, if_neg c3] at h
        cases h
theorem million : FloatKind.f64.decode 4696837146684686336 = .number false 8589934592000000 (-33) := by kernel_rfl
theorem millionM : FloatKind.f64.decode 13920209183539462144 = .number true 8589934592000000 (-33) := by kernel_rfl
def lowB (v : Nat) : Bool := fless .f64 (fabs v) 4696837146684686336 || feq .f64 (fabs v) 4696837146684686336
theorem cmp_le (a c : Int) : ((some (compare a c) == some .lt) || (some (compare a c) == some .eq)) = decide (a ≤ c) := by
  by_cases l : a < c
  · rw [Int.compare_eq_lt.2 l, decide_eq_true (show a ≤ c by omega)]; rfl
  · by_cases g : c < a
    · rw [Int.compare_eq_gt.2 g, decide_eq_false (show ¬ a ≤ c by omega)]; rfl
    · have : a = c := by omega
      subst this
      rw [Int.compare_eq_eq.2 rfl, decide_eq_true (Int.le_refl _)]; rfl
theorem cmp_ge (a c : Int) : ((some (compare a c) == some .gt) || (some (compare a c) == some .eq)) = decide (c ≤ a) := by
  by_cases l : a < c
  · rw [Int.compare_eq_lt.2 l, decide_eq_false (show ¬ c ≤ a by omega)]; rfl
  · by_cases g : c < a
    · rw [Int.compare_eq_gt.2 g, decide_eq_true (show c ≤ a by omega)]; rfl
    · have : a = c := by omega
      subst this
      rw [Int.compare_eq_eq.2 rfl, decide_eq_true (Int.le_refl _)]; rfl
/-- Both tests say the same. -/
theorem low_test {v : Nat} (h : isNan .f64 v = false) : lowB v = ((fgrt .f64 v 13920209183539462144 || feq .f64 v 13920209183539462144) && (fless .f64 v 4696837146684686336 || feq .f64 v 4696837146684686336)) := by
  have o : ∀ x y, FloatKind.f64.format.order x y = (FloatKind.f64.decode x).order (FloatKind.f64.decode y) := fun _ _ => rfl
  unfold lowB fless feq fgrt
  rw [o, o, o, million, millionM]
  rcases abs_dec h with ⟨s, m, i, h1, h2⟩ | ⟨s, h1, h2⟩
  · rw [h1, h2]
    simp only [Datum.order]
    rw [cmp_le, cmp_ge, cmp_le]
    have p1 : signed false m (i - min i (-33)).toNat = ((m <<< (i - min i (-33)).toNat : Nat) : Int) := rfl
    have p2 : signed false 8589934592000000 (-33 - min i (-33)).toNat = ((8589934592000000 <<< (-33 - min i (-33)).toNat : Nat) : Int) := rfl
    have p3 : signed true 8589934592000000 (-33 - min i (-33)).toNat = -((8589934592000000 <<< (-33 - min i (-33)).toNat : Nat) : Int) := rfl
    have p4 : signed s m (i - min i (-33)).toNat = if s = true then -((m <<< (i - min i (-33)).toNat : Nat) : Int) else ((m <<< (i - min i (-33)).toNat : Nat) : Int) := rfl
    rw [p1, p2, p3, p4]
    generalize m <<< (i - min i (-33)).toNat = a
    generalize 8589934592000000 <<< (-33 - min i (-33)).toNat = c
    by_cases hac : a ≤ c
    · rw [decide_eq_true (show (a : Int) ≤ (c : Int) by omega)]
      cases s with
      | false =>
        simp only [Bool.false_eq_true, if_false]
        rw [decide_eq_true (show -(c : Int) ≤ (a : Int) by omega), decide_eq_true (show (a : Int) ≤ (c : Int) by omega)]; rfl
      | true =>
        simp only [if_true]
        rw [decide_eq_true (show -(c : Int) ≤ -(a : Int) by omega), decide_eq_true (show -(a : Int) ≤ (c : Int) by omega)]; rfl
    · rw [decide_eq_false (show ¬ (a : Int) ≤ (c : Int) by omega)]
      cases s with
      | false =>
        simp only [Bool.false_eq_true, if_false]
        rw [decide_eq_false (show ¬ (a : Int) ≤ (c : Int) by omega), Bool.and_false]
      | true =>
        simp only [if_true]
        rw [decide_eq_false (show ¬ -(c : Int) ≤ -(a : Int) by omega)]; rfl
  · rw [h1, h2]
    cases s <;> rfl
theorem cut_small {s : Bool} {m : Nat} {i : Int} (h : m <<< (i - min i (-33)).toNat ≤ 8589934592000000 <<< (-33 - min i (-33)).toNat) : Toward.zero.cut s (m <<< i.toNat) (-i).toNat ≤ 1000000 := by
  have c33 : (8589934592000000 : Nat) = 1000000 * 2 ^ 33 := by decide
  simp only [Nat.shiftLeft_eq] at h ⊢
  rw [c33] at h
  unfold Toward.cut
  simp only [Bool.toNat_false, Nat.add_zero, Nat.shiftLeft_eq, Nat.one_mul]
  by_cases hi : 0 ≤ i
  · have e0 : (-i).toNat = 0 := by omega
    have e1 : (i - min i (-33)).toNat = i.toNat + 33 := by omega
    have e2 : (-33 - min i (-33)).toNat = 0 := by omega
    rw [e1, e2, Nat.pow_add, ← Nat.mul_assoc, Nat.pow_zero, Nat.mul_one] at h
    rw [e0, Nat.zero_min, Nat.pow_zero, Nat.div_one]
    exact Nat.le_of_mul_le_mul_right h (Nat.two_pow_pos 33)
  · obtain ⟨d, hd⟩ : ∃ d : Nat, (d : Int) = -i := ⟨(-i).toNat, by omega⟩
    have e0 : (-i).toNat = d := by omega
    have e3 : i.toNat = 0 := by omega
    have hm : m ≤ 1000000 * 2 ^ d := by
      by_cases h33 : -33 ≤ i
      · have e1 : (i - min i (-33)).toNat = 33 - d := by omega
        have e2 : (-33 - min i (-33)).toNat = 0 := by omega
        rw [e1, e2, Nat.pow_zero, Nat.mul_one] at h
        have e4 : (33 : Nat) = d + (33 - d) := by omega
        have e5 : 1000000 * 2 ^ 33 = 1000000 * 2 ^ d * 2 ^ (33 - d) := by
          conv => lhs; rw [e4, Nat.pow_add, ← Nat.mul_assoc]
        rw [e5] at h
        exact Nat.le_of_mul_le_mul_right h (Nat.two_pow_pos _)
      · have e1 : (i - min i (-33)).toNat = 0 := by omega
        have e2 : (-33 - min i (-33)).toNat = d - 33 := by omega
        rw [e1, e2, Nat.pow_zero, Nat.mul_one, Nat.mul_assoc, ← Nat.pow_add] at h
        rw [show 33 + (d - 33) = d by omega] at h
        exact h
    rw [e3, Nat.pow_zero, Nat.mul_one, e0]
    by_cases hz : m = 0
    · rw [hz]; simp
    · by_cases hmin : d ≤ m.log2 + 2
      · rw [Nat.min_eq_left hmin]
        exact Nat.div_le_of_le_mul (by rw [Nat.mul_comm]; exact hm)
      · rw [Nat.min_eq_right (by omega)]
        have : m < 2 ^ (m.log2 + 2) := Nat.lt_of_lt_of_le (pow_lt_log hz) (Nat.pow_le_pow_right (by omega) (by omega))
        rw [Nat.div_eq_of_lt this]
        omega
/-- A low one is an integer of the same bounds. -/
theorem low_int {v : Nat} (h : isNan .f64 v = false) (hl : lowB v = true) : ∃ k, ftoint .f64 v .i64 = some k ∧ -1000000 ≤ k ∧ k ≤ 1000000 := by
  have o : ∀ x y, FloatKind.f64.format.order x y = (FloatKind.f64.decode x).order (FloatKind.f64.decode y) := fun _ _ => rfl
  unfold lowB fless feq at hl
  rw [o, million] at hl
  rcases abs_dec h with ⟨s, m, i, h1, h2⟩ | ⟨s, h1, h2⟩
  · rw [h2] at hl
    simp only [Datum.order] at hl
    rw [cmp_le] at hl
    have hl := of_decide_eq_true hl
    have p1 : signed false m (i - min i (-33)).toNat = ((m <<< (i - min i (-33)).toNat : Nat) : Int) := rfl
    have p2 : signed false 8589934592000000 (-33 - min i (-33)).toNat = ((8589934592000000 <<< (-33 - min i (-33)).toNat : Nat) : Int) := rfl
    rw [p1, p2] at hl
    have hc := cut_small (s := s) (Int.ofNat_le.1 hl)
    obtain ⟨K, hK⟩ : ∃ K, K = Toward.zero.cut s (m <<< i.toNat) (-i).toNat := ⟨_, rfl⟩
    rw [← hK] at hc
    have ti : (Datum.number s m i).toInt .zero = some (signed s K 0) := by
      show some (signed s (Toward.zero.cut s (m <<< i.toNat) (-i).toNat) 0) = _
      rw [← hK]
    have sg : signed s K 0 = if s = true then -(K : Int) else (K : Int) := rfl
    have mn : IntKind.i64.min = -9223372036854775808 := by decide
    have mx : IntKind.i64.max = 9223372036854775807 := by decide
    have b : -1000000 ≤ signed s K 0 ∧ signed s K 0 ≤ 1000000 := by
      rw [sg]
      split <;> omega
    refine ⟨signed s K 0, ?_, b⟩
    unfold ftoint
    rw [h1, ti]
    simp only [mn, mx]
    rw [if_pos (by omega)]
  · rw [h2] at hl
    exact absurd hl (by decide)
end Go.Proofs.Ytjadfgeemfdbmaa.AM
