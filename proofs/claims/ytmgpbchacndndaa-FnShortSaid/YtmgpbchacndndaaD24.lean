import Derived.Test.YtmgpbchacndndaaBase
import Derived.Test.YtmgpbchacndndaaD18
set_option linter.unusedSimpArgs false
set_option linter.unusedVariables false
namespace Go.Proofs.Ytmgpbchacndndaa.AM
open Ieee
theorem Ej_ {m : Nat} (h : m ≠ 0) : m < 2 ^ (m.log2 + 1) := (Nat.log2_lt h).1 (by omega)
theorem Ou_ {m : Nat} (hm : m ≠ 0) (e : Nat) : (m * 2 ^ e).log2 = m.log2 + e := by
  have h1 : m * 2 ^ e ≠ 0 := Nat.mul_ne_zero hm (Nat.ne_of_gt (Nat.two_pow_pos e))
  have a : 2 ^ m.log2 ≤ m := Nat.log2_self_le hm
  have b := Ej_ hm
  have h2 : m.log2 + e ≤ (m * 2 ^ e).log2 := by
    rw [Nat.le_log2 h1, Nat.pow_add]
    exact Nat.mul_le_mul_right _ a
  have h3 : (m * 2 ^ e).log2 < m.log2 + e + 1 := by
    rw [Nat.log2_lt h1, show m.log2 + e + 1 = m.log2 + 1 + e by omega, Nat.pow_add]
    exact Nat.mul_lt_mul_of_pos_right b (Nat.two_pow_pos e)
  omega
theorem Ajs_ (neg : Bool) {a : Nat} (ha : a ≠ 0) (d : Nat) : Toward.even.cut neg (a * 2 ^ d) d = a := by
  have hl := Ou_ ha d
  have hmin : min d ((a * 2 ^ d).log2 + 2) = d := by omega
  unfold Toward.cut
  simp only [hmin, Nat.shiftLeft_eq, Nat.one_mul]
  have h1 : a * 2 ^ d / 2 ^ d = a := Nat.mul_div_cancel _ (Nat.two_pow_pos d)
  have h2 : a * 2 ^ d % 2 ^ d = 0 := Nat.mul_mod_left _ _
  have h3 : (2 ^ d == 2 * 0) = false := by
    have := Nat.two_pow_pos d
    simp
  rw [h1, h2, h3]
  simp
theorem Ann_ (f : Format) (s : Bool) {m : Nat} (hm : m ≠ 0) (i : Int) (e : Nat) (hL : m.log2 ≤ f.fractionBits) (hi : f.leastPlace ≤ i) :
    f.nearest s (m * 2 ^ e) (i - e) = f.word s (min ((max (i + m.log2 - f.fractionBits) f.leastPlace - f.leastPlace).toNat * f.binade + m * 2 ^ (i - max (i + m.log2 - f.fractionBits) f.leastPlace).toNat) f.infRung) := by
  have h1 : m * 2 ^ e ≠ 0 := Nat.mul_ne_zero hm (Nat.ne_of_gt (Nat.two_pow_pos e))
  unfold Format.nearest
  rw [if_neg h1, Ou_ hm e]
  simp only
  have hlast : (i - (e : Int)) + ((m.log2 + e : Nat) : Int) - (f.fractionBits : Int) = i + (m.log2 : Int) - f.fractionBits := by omega
  rw [hlast]
  obtain ⟨last, hl⟩ : ∃ last, last = max (i + (m.log2 : Int) - (f.fractionBits : Int)) f.leastPlace := ⟨_, rfl⟩
  rw [← hl]
  have hle : last ≤ i := by omega
  have hk : Toward.even.cut s ((m * 2 ^ e) <<< (i - e - last).toNat) (last - (i - e)).toNat = m * 2 ^ (i - last).toNat := by
    rw [Nat.shiftLeft_eq]
    by_cases h : last ≤ i - e
    · have h0 : (last - (i - (e : Int))).toNat = 0 := by omega
      rw [h0, Vw_, Nat.mul_assoc, ← Nat.pow_add]
      congr 2
      omega
    · have h0 : (i - (e : Int) - last).toNat = 0 := by omega
      rw [h0, Nat.pow_zero, Nat.mul_one]
      have h2 : e = (i - last).toNat + (last - (i - e)).toNat := by omega
      have h3 : m * 2 ^ e = (m * 2 ^ (i - last).toNat) * 2 ^ (last - (i - e)).toNat := by
        rw [Nat.mul_assoc, ← Nat.pow_add]
        congr 2
      rw [h3, Ajs_ s (Nat.mul_ne_zero hm (Nat.ne_of_gt (Nat.two_pow_pos _)))]
  rw [hk]
end Go.Proofs.Ytmgpbchacndndaa.AM
