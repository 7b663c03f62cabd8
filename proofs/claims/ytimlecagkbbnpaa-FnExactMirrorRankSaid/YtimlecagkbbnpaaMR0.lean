/- Sums of squares of singles are not less than 0. -/
import Derived.Test.YtimlecagkbbnpaaM2
set_option linter.unusedSimpArgs false
set_option linter.unusedVariables false
set_option maxHeartbeats 1000000
namespace Go.Proofs.Ytimlecagkbbnpaa.AM
open Ieee

theorem mr_read32 (x : Nat) (h : x % 2147483648 < 2139095040) : FloatKind.f32.decode x = if x % 2147483648 < 8388608 then .number (x / 2147483648 % 2 == 1) (x % 2147483648) (-149) else .number (x / 2147483648 % 2 == 1) (8388608 + x % 2147483648 % 8388608) (-149 + (x % 2147483648 / 8388608 - 1 : Nat)) := by
  have e1 : single.signWeight = 2147483648 := by kernel_rfl
  have e2 : single.binade = 8388608 := by kernel_rfl
  have e3 : single.infRung = 2139095040 := by kernel_rfl
  have e4 : single.leastPlace = -149 := by kernel_rfl
  unfold FloatKind.decode FloatKind.format Format.read
  simp only [e1, e2, e3, e4]
  split
  · rfl
  · first | rfl | rw [if_pos h]
theorem mr_dec {r : Nat} (h : r < 2139095040) : ∃ m i, FloatKind.f32.decode r = .number false m i := by
  have h0 : (r / 2147483648 % 2 == 1) = false := by
    have : r / 2147483648 = 0 := by omega
    rw [this]; rfl
  have hd := mr_read32 r (by omega)
  rw [h0] at hd
  rw [hd]
  split
  · exact ⟨_, _, rfl⟩
  · exact ⟨_, _, rfl⟩
theorem mr_add (x y : Nat) : fadd .f32 x y = fres .f32 (((FloatKind.f32.decode x).sum (FloatKind.f32.decode y)).map FloatKind.f32.format.write) := rfl
theorem mr_mul (x y : Nat) : fmul .f32 x y = fres .f32 (((FloatKind.f32.decode x).product (FloatKind.f32.decode y)).map FloatKind.f32.format.write) := rfl
theorem mr_word (s : Bool) (r : Nat) (h : r ≤ 2139095040) : (single.word s r) % 2147483648 = r ∧ isNan .f32 (single.word s r) = false ∧ single.word false r = r := by
  have e1 : single.signWeight = 2147483648 := by kernel_rfl
  refine ⟨?_, word_ok s r h, by unfold Format.word; simp⟩
  unfold Format.word
  rw [e1]
  split <;> omega
theorem mr_write (s : Bool) (m : Nat) (i : Int) : ∃ r, single.write (.number s m i) = single.word s r ∧ r ≤ 2139095040 := by
  have e3 : single.infRung = 2139095040 := by kernel_rfl
  unfold Format.write Format.nearest
  simp only
  by_cases hz : m = 0
  · rw [if_pos hz]; exact ⟨0, rfl, by omega⟩
  · rw [if_neg hz]; exact ⟨_, rfl, by rw [e3]; exact Nat.min_le_right _ _⟩
theorem mr_sum (m n : Nat) (i j : Int) : ∃ k, Datum.sum (.number false m i) (.number false n j) = some (.number false k (min i j)) := by
  refine ⟨m * 2 ^ (i - min i j).toNat + n * 2 ^ (j - min i j).toNat, ?_⟩
  simp only [Datum.sum]
  have h5 : signed false m (i - min i j).toNat + signed false n (j - min i j).toNat = ((m * 2 ^ (i - min i j).toNat + n * 2 ^ (j - min i j).toNat : Nat) : Int) := by
    unfold signed
    simp [Nat.shiftLeft_eq]
  rw [h5]
  generalize m * 2 ^ (i - min i j).toNat + n * 2 ^ (j - min i j).toNat = k
  have h8 : decide (((k : Nat) : Int) < 0) = false := decide_eq_false (by omega)
  by_cases h : ((k : Nat) : Int) = 0
  · rw [if_pos h, Int.natAbs_natCast]; rfl
  · rw [if_neg h, h8, Int.natAbs_natCast]
theorem mr_num {m : Nat} {i : Int} {s : Bool} : ∃ r, fres .f32 (some (FloatKind.f32.format.write (.number s m i))) = single.word s r ∧ r ≤ 2139095040 := by
  obtain ⟨r, h4, h5⟩ := mr_write s m i
  have h4' : FloatKind.f32.format.write (.number s m i) = single.word s r := h4
  obtain ⟨w1, w2, w3⟩ := mr_word s r h5
  exact ⟨r, by simp only [fres, Option.map_some, Option.getD_some, h4', canon_num w2], h5⟩
theorem add_nn {a b : Nat} (ha : a < 2139095040) (hb : b < 2139095040) : fadd .f32 a b ≤ 2139095040 := by
  obtain ⟨n, j, h2⟩ := mr_dec hb
  obtain ⟨m, i, h1⟩ := mr_dec ha
  obtain ⟨k, h3⟩ := mr_sum m n i j
  rw [mr_add, h1, h2, h3]
  obtain ⟨r, h4, h5⟩ := mr_num (m := k) (i := min i j) (s := false)
  have h6 : fres .f32 ((some (Datum.number false k (min i j))).map FloatKind.f32.format.write) = single.word false r := h4
  rw [h6, (mr_word false r h5).2.2]; exact h5
theorem mr_wi (s : Bool) : isNum .f32 (fres .f32 (some (FloatKind.f32.format.write (.infinity s)))) = false := by cases s <;> kernel_rfl
theorem mr_wn : isNum .f32 (fres .f32 none) = false := by kernel_rfl
theorem add_wl {x y : Nat} (h : sfin x = false) : sfin (fadd .f32 x y) = false := by
  have num : ∀ z, sfin z = isNum .f32 z := sfin_iff
  rw [num] at h ⊢
  rw [mr_add]
  unfold isNum at h
  cases hx : FloatKind.f32.decode x with
  | number s m i => rw [hx] at h; cases h
  | nan s f => exact mr_wn
  | infinity s =>
    cases hy : FloatKind.f32.decode y with
    | number t n j => exact mr_wi s
    | nan t f => exact mr_wn
    | infinity t =>
      by_cases e : s = t
      · simp only [Datum.sum]; rw [if_pos e]; exact mr_wi s
      · simp only [Datum.sum]; rw [if_neg e]; exact mr_wn
theorem add_wr {x y : Nat} (h : sfin y = false) : sfin (fadd .f32 x y) = false := by
  have num : ∀ z, sfin z = isNum .f32 z := sfin_iff
  rw [num] at h ⊢
  rw [mr_add]
  unfold isNum at h
  cases hy : FloatKind.f32.decode y with
  | number s m i => rw [hy] at h; cases h
  | nan s f =>
    cases hx : FloatKind.f32.decode x with
    | number t n j => exact mr_wn
    | nan t f => exact mr_wn
    | infinity t => exact mr_wn
  | infinity s =>
    cases hx : FloatKind.f32.decode x with
    | number t n j => exact mr_wi s
    | nan t f => exact mr_wn
    | infinity t =>
      by_cases e : t = s
      · simp only [Datum.sum]; rw [if_pos e]; exact mr_wi t
      · simp only [Datum.sum]; rw [if_neg e]; exact mr_wn
theorem inf_wild : sfin 2139095040 = false := by kernel_rfl
theorem sq_nn (x : Nat) (h : sfin (fmul .f32 x x) = true) : fmul .f32 x x < 2139095040 := by
  have le : fmul .f32 x x ≤ 2139095040 := by
    have num : ∀ z, sfin z = isNum .f32 z := sfin_iff
    rw [num, mr_mul] at h
    rw [mr_mul]
    cases hx : FloatKind.f32.decode x with
    | number s m i =>
      obtain ⟨r, h4, h5⟩ := mr_num (m := m * m) (i := i + i) (s := false)
      have e : (Datum.number s m i).product (Datum.number s m i) = some (.number false (m * m) (i + i)) := by
        simp only [Datum.product, bne_self_eq_false, Bool.xor_self]
      rw [e]
      have h6 : fres .f32 ((some (Datum.number false (m * m) (i + i))).map FloatKind.f32.format.write) = single.word false r := h4
      rw [h6, (mr_word false r h5).2.2]; exact h5
    | nan s f =>
      rw [hx] at h
      have : isNum .f32 (fres .f32 none) = true := h
      rw [mr_wn] at this; cases this
    | infinity s =>
      rw [hx] at h
      cases s
      · have : isNum .f32 (fres .f32 (some (FloatKind.f32.format.write (.infinity false)))) = true := h
        rw [mr_wi] at this; cases this
      · have : isNum .f32 (fres .f32 (some (FloatKind.f32.format.write (.infinity false)))) = true := h
        rw [mr_wi] at this; cases this
  by_cases e : fmul .f32 x x = 2139095040
  · rw [e, inf_wild] at h; cases h
  · omega
theorem dot_nn (xs : Nat → Nat) : ∀ n, sfin (dotN (fun i => fmul .f32 (xs i) (xs i)) n) = true → dotN (fun i => fmul .f32 (xs i) (xs i)) n < 2139095040
  | 0, _ => by show 0 < _; omega
  | n + 1, h => by
    have h1 : sfin (dotN (fun i => fmul .f32 (xs i) (xs i)) n) = true := by
      cases e : sfin (dotN (fun i => fmul .f32 (xs i) (xs i)) n) with
      | true => rfl
      | false => rw [dotN, add_wl e] at h; cases h
    have h2 : sfin (fmul .f32 (xs n) (xs n)) = true := by
      cases e : sfin (fmul .f32 (xs n) (xs n)) with
      | true => rfl
      | false => rw [dotN, add_wr e] at h; cases h
    have h3 := dot_nn xs n h1
    have h4 := sq_nn _ h2
    have h5 := add_nn h3 h4
    have h6 : dotN (fun i => fmul .f32 (xs i) (xs i)) (n + 1) ≤ 2139095040 := h5
    by_cases e : dotN (fun i => fmul .f32 (xs i) (xs i)) (n + 1) = 2139095040
    · rw [e, inf_wild] at h; cases h
    · omega
/-- More than -1. -/
theorem gt_m1 {s : Nat} (h : s < 2139095040) : fgrt .f32 s 3212836864 = true := by
  obtain ⟨m, i, hd⟩ := mr_dec h
  have ho : FloatKind.f32.decode 3212836864 = .number true 8388608 (-23) := by kernel_rfl
  have hf : fgrt .f32 s 3212836864 = ((FloatKind.f32.decode s).order (FloatKind.f32.decode 3212836864) == some .gt) := rfl
  rw [hf, hd, ho]
  simp only [Datum.order]
  have h4 : compare (signed false m (i - min i (-23)).toNat) (signed true 8388608 (-23 - min i (-23)).toNat) = .gt := by
    rw [Int.compare_eq_gt]
    have h5 : 0 < 8388608 <<< (-23 - min i (-23)).toNat := by
      rw [Nat.shiftLeft_eq]; exact Nat.mul_pos (by omega) (Nat.two_pow_pos _)
    unfold signed
    simp only [Bool.false_eq_true, if_false, if_true]
    generalize 8388608 <<< (-23 - min i (-23)).toNat = B at h5 ⊢
    generalize m <<< (i - min i (-23)).toNat = A
    omega
  rw [h4]; rfl
end Go.Proofs.Ytimlecagkbbnpaa.AM
