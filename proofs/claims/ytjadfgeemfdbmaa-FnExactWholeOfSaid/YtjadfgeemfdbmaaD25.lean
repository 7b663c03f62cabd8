/- Sums and halves of singles: bounds. -/
import Derived.Test.YtjadfgeemfdbmaaD24
set_option linter.unusedSimpArgs false
set_option linter.unusedVariables false
namespace Go.Proofs.Ytjadfgeemfdbmaa.AM
open Ieee

theorem add_form (x y : Nat) : fadd .f32 x y = fres .f32 (((FloatKind.f32.decode x).sum (FloatKind.f32.decode y)).map FloatKind.f32.format.write) := rfl
theorem mul_form (x y : Nat) : fmul .f32 x y = fres .f32 (((FloatKind.f32.decode x).product (FloatKind.f32.decode y)).map FloatKind.f32.format.write) := rfl
theorem word32 (s : Bool) (r : Nat) (h : r ≤ 2139095040) : (single.word s r) % 2147483648 = r ∧ isNan .f32 (single.word s r) = false ∧ single.word false r = r := by
  have e1 : single.signWeight = 2147483648 := by kernel_rfl
  refine ⟨?_, word_ok s r h, by unfold Format.word; simp⟩
  unfold Format.word
  rw [e1]
  split <;> omega
/-- A word of a number is its rung, with its sign. -/
theorem write_word (s : Bool) (m : Nat) (i : Int) : ∃ r, single.write (.number s m i) = single.word s r ∧ r ≤ 2139095040 := by
  have e3 : single.infRung = 2139095040 := by kernel_rfl
  unfold Format.write Format.nearest
  simp only
  by_cases hz : m = 0
  · rw [if_pos hz]; exact ⟨0, rfl, by omega⟩
  · rw [if_neg hz]; exact ⟨_, rfl, by rw [e3]; exact Nat.min_le_right _ _⟩
theorem sum_pos (m n : Nat) (i j : Int) : ∃ k, Datum.sum (.number false m i) (.number false n j) = some (.number false k (min i j)) ∧ k = m * 2 ^ (i - min i j).toNat + n * 2 ^ (j - min i j).toNat := by
  refine ⟨_, ?_, rfl⟩
  simp only [Datum.sum]
  have h5 : signed false m (i - min i j).toNat + signed false n (j - min i j).toNat = ((m * 2 ^ (i - min i j).toNat + n * 2 ^ (j - min i j).toNat : Nat) : Int) := by
    unfold signed
    simp [Nat.shiftLeft_eq]
  rw [h5]
  generalize m * 2 ^ (i - min i j).toNat + n * 2 ^ (j - min i j).toNat = k
  have h8 : decide (((k : Nat) : Int) < 0) = false := decide_eq_false (by omega)
  by_cases h : ((k : Nat) : Int) = 0
  · rw [if_pos h, Int.natAbs_natCast]; rfl
  · rw [if_neg h, h8, Int.natAbs_natCast]
theorem add_pos {a b : Nat} (ha : a ≤ 2139095040) (hb : b < 2139095040) : fadd .f32 a b ≤ 2139095040 := by
  obtain ⟨n, j, h2⟩ := pos_dec hb
  rw [add_form, h2]
  by_cases hi : a = 2139095040
  · have : FloatKind.f32.decode 2139095040 = .infinity false := by kernel_rfl
    rw [hi, this]
    show fres .f32 (some (FloatKind.f32.format.write (.infinity false))) ≤ _
    have : fres .f32 (some (FloatKind.f32.format.write (.infinity false))) = 2139095040 := by kernel_rfl
    rw [this]; exact Nat.le_refl _
  obtain ⟨m, i, h1⟩ := pos_dec (show a < 2139095040 by omega)
  obtain ⟨k, h3, _⟩ := sum_pos m n i j
  rw [h1, h3]
  obtain ⟨r, h4, h5⟩ := write_word false k (min i j)
  have h4' : FloatKind.f32.format.write (.number false k (min i j)) = single.word false r := h4
  obtain ⟨w1, w2, w3⟩ := word32 false r h5
  simp only [fres, Option.map_some, Option.getD_some, h4', canon_num w2]
  rw [w3]; exact h5
theorem read_bnd {a K : Nat} (hK : 1 ≤ K) (hK2 : K ≤ 250) (h : a ≤ K * 8388608) : ∃ m i, FloatKind.f32.decode a = .number false m i ∧ m < 16777216 ∧ -149 ≤ i ∧ i ≤ (K : Int) - 150 := by
  have h0 : (a / 2147483648 % 2 == 1) = false := by
    have : a / 2147483648 = 0 := by omega
    rw [this]; rfl
  have hd := read32 a (by omega)
  rw [h0] at hd
  rw [hd]
  split
  · exact ⟨_, _, rfl, by omega, by omega, by omega⟩
  · exact ⟨_, _, rfl, by omega, by omega, by omega⟩
theorem add_bnd {a b K : Nat} (hK : 1 ≤ K) (hK2 : K ≤ 250) (ha : a ≤ K * 8388608) (hb : b ≤ K * 8388608) : fadd .f32 a b ≤ (K + 2) * 8388608 := by
  have e2 : single.binade = 8388608 := by kernel_rfl
  have e4 : single.leastPlace = -149 := by kernel_rfl
  have e5 : single.fractionBits = 23 := rfl
  obtain ⟨m, i, h1, m1, i1, i2⟩ := read_bnd hK hK2 ha
  obtain ⟨n, j, h2, n1, j1, j2⟩ := read_bnd hK hK2 hb
  obtain ⟨k, h3, hk⟩ := sum_pos m n i j
  rw [add_form, h1, h2, h3]
  obtain ⟨q, hq⟩ : ∃ q : Nat, (q : Int) = (K : Int) - 150 - min i j := ⟨((K : Int) - 150 - min i j).toNat, by omega⟩
  have hk2 : k < 2 ^ (25 + q) := by
    have p1 : 2 ^ (i - min i j).toNat ≤ 2 ^ q := Nat.pow_le_pow_right (by omega) (by omega)
    have p2 : 2 ^ (j - min i j).toNat ≤ 2 ^ q := Nat.pow_le_pow_right (by omega) (by omega)
    have q1 : m * 2 ^ (i - min i j).toNat ≤ 16777215 * 2 ^ q := Nat.mul_le_mul (by omega) p1
    have q2 : n * 2 ^ (j - min i j).toNat ≤ 16777215 * 2 ^ q := Nat.mul_le_mul (by omega) p2
    have q3 : 0 < 2 ^ q := Nat.two_pow_pos q
    rw [hk, Nat.pow_add]
    have : (2 : Nat) ^ 25 = 33554432 := by decide
    rw [this]
    omega
  obtain ⟨r, h4, h5⟩ : ∃ r, single.write (.number false k (min i j)) = single.word false r ∧ r ≤ (K + 2) * 8388608 := by
    by_cases hz : k = 0
    · refine ⟨0, ?_, by omega⟩
      unfold Format.write Format.nearest
      simp only
      rw [if_pos hz]
    · have hl : k.log2 < 25 + q := (Nat.log2_lt hz).2 hk2
      obtain ⟨r, g1, g2⟩ := write_rung single false k (min i j) K (by rw [e4, e5]; omega)
      refine ⟨r, g1, ?_⟩
      rw [e2, e5] at g2
      have : (2 : Nat) ^ (23 + 1) = 16777216 := by decide
      rw [this] at g2
      omega
  have h4' : FloatKind.f32.format.write (.number false k (min i j)) = single.word false r := h4
  obtain ⟨w1, w2, w3⟩ := word32 false r (by omega)
  simp only [fres, Option.map_some, Option.getD_some, h4', canon_num w2]
  rw [w3]; exact h5
/-- Half of a number. -/
theorem half_bnd {x K : Nat} (hx : x % 2147483648 < 2139095040) (hK : x % 2147483648 ≤ (K + 1) * 8388608) (hK2 : 2 ≤ K) : (fmul .f32 1056964608 x) % 2147483648 ≤ K * 8388608 ∧ (fmul .f32 1056964608 x) % 2147483648 < 2139095040 := by
  have e2 : single.binade = 8388608 := by kernel_rfl
  have e4 : single.leastPlace = -149 := by kernel_rfl
  have e5 : single.fractionBits = 23 := rfl
  have hh : FloatKind.f32.decode 1056964608 = .number false 8388608 (-24) := by kernel_rfl
  obtain ⟨s, hs⟩ : ∃ s, s = (x / 2147483648 % 2 == 1) := ⟨_, rfl⟩
  have hd := read32 x hx
  rw [← hs] at hd
  obtain ⟨R, hR⟩ : ∃ R, R = x % 2147483648 := ⟨_, rfl⟩
  rw [← hR] at hd hx hK
  have fin : ∀ m i r, FloatKind.f32.decode x = .number s m i → single.write (.number s (m * 2 ^ 23) (i - 24)) = single.word s r → r ≤ 2139095040 → (fmul .f32 1056964608 x) % 2147483648 = r := by
    intro m i r h1 h2 h3
    rw [mul_form, hh, h1]
    have h4 : Datum.product (.number false 8388608 (-24)) (.number s m i) = some (.number s (m * 2 ^ 23) (i - 24)) := by
      simp only [Datum.product]
      have a1 : (false ^^ s) = s := by cases s <;> rfl
      have a2 : 8388608 * m = m * 2 ^ 23 := by rw [Nat.mul_comm]
      have a3 : (-24 : Int) + i = i - 24 := by omega
      rw [a1, a2, a3]
    rw [h4]
    have h2' : FloatKind.f32.format.write (.number s (m * 2 ^ 23) (i - 24)) = single.word s r := h2
    obtain ⟨w1, w2, w3⟩ := word32 s r h3
    simp only [fres, Option.map_some, Option.getD_some, h2', canon_num w2]
    exact w1
  by_cases h16 : R < 16777216
  · -- small
    have hsm : ∃ m, FloatKind.f32.decode x = .number s m (-149) ∧ m < 16777216 := by
      by_cases h8 : R < 8388608
      · rw [if_pos h8] at hd; exact ⟨_, hd, by omega⟩
      · rw [if_neg h8] at hd
        have : (-149 : Int) + ((R / 8388608 - 1 : Nat) : Int) = -149 := by omega
        rw [this] at hd
        exact ⟨_, hd, by omega⟩
    obtain ⟨m, hm, hm2⟩ := hsm
    obtain ⟨r, g1, g2⟩ : ∃ r, single.write (.number s (m * 2 ^ 23) (-149 - 24)) = single.word s r ∧ r ≤ 16777216 := by
      by_cases hz : m = 0
      · refine ⟨0, ?_, by omega⟩
        unfold Format.write Format.nearest
        simp only
        rw [if_pos (by simp [hz])]
      · have hz2 : m * 2 ^ 23 ≠ 0 := Nat.mul_ne_zero hz (by decide)
        have hl : (m * 2 ^ 23).log2 < 47 := (Nat.log2_lt hz2).2 (by
          have : (2 : Nat) ^ 47 = 16777216 * 2 ^ 23 := by decide
          rw [this]
          exact Nat.mul_lt_mul_of_pos_right hm2 (by decide))
        obtain ⟨r, g1, g2⟩ := write_rung single s (m * 2 ^ 23) (-149 - 24) 0 (by rw [e4, e5]; omega)
        refine ⟨r, g1, ?_⟩
        rw [e2, e5] at g2
        have : (2 : Nat) ^ (23 + 1) = 16777216 := by decide
        rw [this] at g2
        omega
    have := fin m (-149) r hm g1 (by omega)
    rw [this]
    exact ⟨by omega, by omega⟩
  · -- its word falls by one binade
    obtain ⟨y, hy⟩ : ∃ y, y = R - 8388608 := ⟨_, rfl⟩
    have hym : y % 2147483648 = y := by omega
    have hyd := read32 y (by omega)
    rw [hym, if_neg (by omega)] at hyd
    obtain ⟨m, i, p1, p2, p3, p4, p5, p6⟩ := parts32 y (by omega) (by omega)
    rw [hyd] at p1
    injection p1 with q1 q2 q3
    rw [if_neg (by omega)] at hd
    have c1 : R % 8388608 = y % 8388608 := by omega
    have c2 : (-149 : Int) + ((R / 8388608 - 1 : Nat) : Int) = i + 1 := by omega
    rw [c1, q2, c2] at hd
    have g := p6 s 23
    rw [hym] at g
    have g' : single.write (.number s (m * 2 ^ 23) (i + 1 - 24)) = single.word s y := by
      have : i + 1 - 24 = i - ((23 : Nat) : Int) := by omega
      rw [this]
      exact g
    have := fin m (i + 1) y hd g' (by omega)
    rw [this]
    exact ⟨by omega, by omega⟩
theorem max_inf : fmaxA .f32 2139095040 2139095040 = if fgrt .f32 2139095040 2139095040 = true then 2139095040 else 2139095040 := by kernel_rfl
/-- The greater one, where sums may be too great. -/
theorem max_pos2 {s r : Nat} (hs : s ≤ 2139095040) (hr : r ≤ 2139095040) : fmaxA .f32 s r = if fgrt .f32 r s = true then r else s := by
  have inf : FloatKind.f32.decode 2139095040 = .infinity false := by kernel_rfl
  have o : ∀ x y, FloatKind.f32.format.order x y = (FloatKind.f32.decode x).order (FloatKind.f32.decode y) := fun _ _ => rfl
  by_cases h1 : s = 2139095040
  · by_cases h2 : r = 2139095040
    · rw [h1, h2]; exact max_inf
    · obtain ⟨m, i, hd⟩ := pos_dec (show r < 2139095040 by omega)
      unfold fmaxA fgrt
      rw [o, o, h1, inf, hd]
      rfl
  · obtain ⟨m, i, hd⟩ := pos_dec (show s < 2139095040 by omega)
    by_cases h2 : r = 2139095040
    · unfold fmaxA fgrt
      rw [o, o, h2, inf, hd]
      rfl
    · exact max_pos (by omega) (by omega)
/-- What is not finite stays so. -/
theorem add_wild {x y : Nat} (h : sfin x = false) : sfin (fadd .f32 x y) = false := by
  have num : ∀ z, sfin z = isNum .f32 z := sfin_iff
  rw [num] at h ⊢
  rw [add_form]
  unfold isNum at h
  have wi : ∀ s, isNum .f32 (fres .f32 (some (FloatKind.f32.format.write (.infinity s)))) = false := fun s => by cases s <;> kernel_rfl
  have wn : isNum .f32 (fres .f32 none) = false := by kernel_rfl
  cases hx : FloatKind.f32.decode x with
  | number s m i => rw [hx] at h; cases h
  | nan s f => exact wn
  | infinity s =>
    cases hy : FloatKind.f32.decode y with
    | number t n j => exact wi s
    | nan t f => exact wn
    | infinity t =>
      by_cases e : s = t
      · simp only [Datum.sum]; rw [if_pos e]; exact wi s
      · simp only [Datum.sum]; rw [if_neg e]; exact wn
theorem mod_sfin {x : Nat} (h : x % 2147483648 < 2139095040) : sfin x = true := by
  rw [sfin_iff]
  unfold isNum
  rw [read32 x h]
  split
  · rename_i heq; rfl
  · rename_i heq; split at heq <;> simp_all
end Go.Proofs.Ytjadfgeemfdbmaa.AM
